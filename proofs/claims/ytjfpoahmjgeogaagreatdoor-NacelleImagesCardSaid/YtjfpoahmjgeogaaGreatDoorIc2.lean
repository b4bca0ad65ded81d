/- Bundle 2 of the texts Fault, PvmCheck, PvmOps, App, Bytes, Words, PvmMach, MonoV, TailM, PvmPlainOp. -/
import Derived.Test.YtjfpoahmjgeogaaGreatDoorIc1
import Derived.Test.YtjfpoahmjgeogaaGreatDoorProg
import Derived.Lib.Hide
import Derived.Maps.AppendAt
import Derived.Deep.OwnRows
import Derived.OneCell
import Derived.WalkSpells
import Derived.RegionTactic
import Derived.ChangeAlike
import Derived.Deep.QuietTactic
import Derived.BigQuiet
/- fault.Code of a fault without a cause. -/
namespace Go.Proofs.YtjfpoahmjgeogaaGreatDoor
open Go.RowKit Nac
theorem as_hit_b (e t : Addr) (old : Value) (w : World) (B : Nat) (hg : Hdl w) (ht0 : w.cell? t = some old) (hf0 : w.frozen? t = false) (hB : B ≤ t.block) (hB2 : B ≤ w.heap.size) (htl : t.block < w.heap.size) :
    Calls Tryz.prog 86 #[.iface 131 (.pointer (some e)), .iface 173 (.pointer (some t))] w fun ev w' => ev = .returned (.bool true) ∧ Below B w w' ∧ w'.cell? t = some (.pointer (some e)) := by
  refine (as_hit e t old w hg ht0 hf0).mono ?_
  rintro ev w' ⟨rfl, rfl⟩
  refine ⟨rfl, ?_, ?_⟩
  · refine Below.setCell ?_ hB _
    exact ((((Below.refl _ _).alloc hB2 _).alloc (by simp; omega) _).alloc (by simp; omega) _).alloc (by simp; omega) _
  · refine World.cell?_setCell_same _ _ _ (u := old) ?_
    rw [World.cell?_alloc_lt _ _ t (by simp; omega), World.cell?_alloc_lt _ _ t (by simp; omega), World.cell?_alloc_lt _ _ t (by simp; omega), World.cell?_alloc_lt _ _ t htl]
    exact ht0
theorem outer_hit (w : World) (g : Nat) (hg : Hdl w) :
    Calls Tryz.prog 63 #[.iface 131 (.pointer (some ⟨g, 0, none⟩))] w fun e w' => e = .returned (.pointer (some ⟨g, 0, none⟩)) ∧ Below w.heap.size w w' := by
  have hl := hg.lt
  go_enter Tryz.func63, Tryz.ntmps63
  go_wp2_with fail
  have hb : Below w.heap.size w (w.alloc (.cells #[.pointer none] 131)) := (Below.refl _ _).alloc (Nat.le_refl _) _
  have hx : Box (w.alloc (.cells #[.pointer none] 131)) w.heap.size [.pointer none] := Box.new w _ _
  obtain ⟨t, ht⟩ := hx
  refine (as_hit_b ⟨g, 0, none⟩ ⟨w.heap.size, 0, none⟩ (.pointer none) _ w.heap.size (hg.below hb hl) (Box.cell ⟨t, ht⟩ rfl) (frozen_of_row _ _ 0 _ t ht) (Nat.le_refl _) hb.size (by simp)).mono ?_
  rintro e w2 ⟨rfl, hb2, hc2⟩
  have HB : Hid (Below w.heap.size w w2) := hb.trans hb2
  clear hb hb2 ht
  go_wp2
  go_ret
  exact ⟨rfl, HB.out⟩
theorem outer_nil (w : World) :
    Calls Tryz.prog 63 #[.nilIface] w fun e w' => e = .returned (.pointer none) ∧ Below w.heap.size w w' := by
  go_enter Tryz.func63, Tryz.ntmps63
  go_wp2_with fail
  refine (as_nil _ _).mono ?_
  rintro e w2 ⟨rfl, rfl⟩
  go_wp2
  go_ret
  exact ⟨rfl, (Below.refl _ _).alloc (Nat.le_refl _) _⟩
theorem code_hit (w : World) (g : Nat) (c i : Int) (hg : Hdl w) (hx : Box w g [.int .i64 c, .int .i64 i, .nilIface]) :
    Calls Tryz.prog 42 #[.iface 131 (.pointer (some ⟨g, 0, none⟩))] w fun e w' => e = .returned (.int .i64 c) ∧ Below w.heap.size w w' := by
  go_enter Tryz.func42, Tryz.ntmps42
  go_wp2_with fail
  refine (outer_hit w g hg).mono ?_
  rintro e w2 ⟨rfl, hb2⟩
  have hx2 := hx.below hb2 hx.lt
  have c0 : w2.cell? ⟨g, 0, none⟩ = some (.int .i64 c) := hx2.cell rfl
  have HB := Lib.hid hb2
  clear hb2 hx hx2
  go_wp2
  go_ret
  exact ⟨rfl, HB.out⟩
end Go.Proofs.YtjfpoahmjgeogaaGreatDoor
/- code: Check; pvm: illFormed. -/
namespace Go.Proofs.YtjfpoahmjgeogaaGreatDoor
open Go.RowKit Nac Nac.Pvm
def RIn (w : World) (B : Nat) (A : Option Addr) (l : List Ins) : Prop :=
  l ≠ [] → ∃ b o, A = some ⟨b, o, none⟩ ∧ b < B ∧ ∀ j (h : j < l.length), w.cell? ⟨b, o + j * 4, none⟩ = some (.int .u8 l[j].op) ∧ w.cell? ⟨b, o + j * 4 + 1, none⟩ = some (.int .u8 l[j].a) ∧ w.cell? ⟨b, o + j * 4 + 2, none⟩ = some (.int .u8 l[j].b) ∧ w.cell? ⟨b, o + j * 4 + 3, none⟩ = some (.int .u8 l[j].c) ∧ l[j].fits
theorem RIn.get {w : World} {B : Nat} {A : Option Addr} {l : List Ins} (h : RIn w B A l) {j : Nat} (hj : j < l.length) :
    ∃ b o, A = some ⟨b, o, none⟩ ∧ b < B ∧ w.cell? ⟨b, o + j * 4, none⟩ = some (.int .u8 l[j].op) ∧ w.cell? ⟨b, o + j * 4 + 1, none⟩ = some (.int .u8 l[j].a) ∧ w.cell? ⟨b, o + j * 4 + 2, none⟩ = some (.int .u8 l[j].b) ∧ w.cell? ⟨b, o + j * 4 + 3, none⟩ = some (.int .u8 l[j].c) ∧ l[j].fits := by
  obtain ⟨b, o, hA, hb, hc⟩ := h (by intro e; subst e; simp at hj)
  exact ⟨b, o, hA, hb, hc j hj⟩
theorem RIn.below {w w' : World} {B : Nat} {A : Option Addr} {l : List Ins} (h : RIn w B A l) (hb : Below B w w') : RIn w' B A l := fun hn => by
  obtain ⟨b, o, hA, hlt, hc⟩ := h hn
  refine ⟨b, o, hA, hlt, fun j hj => ?_⟩
  obtain ⟨h1, h2, h3, h4, h5⟩ := hc j hj
  exact ⟨(hb.cell (p := ⟨b, _, none⟩) hlt).trans h1, (hb.cell (p := ⟨b, _, none⟩) hlt).trans h2, (hb.cell (p := ⟨b, _, none⟩) hlt).trans h3, (hb.cell (p := ⟨b, _, none⟩) hlt).trans h4, h5⟩
theorem faultAt_step (n : Nat) (l : List Ins) (k : Nat) (h : k < l.length) (i : Nat) : faultAt n (l.drop k) i = if wf l[k] = false then some (3, i) else if leads l[k] = true ∧ (n : Int) ≤ num l[k] then some (4, i) else faultAt n (l.drop (k + 1)) (i + 1) := by
  rw [List.drop_eq_getElem_cons h]
  rfl
theorem check_some {l : List Ins} {f : Nat × Nat} (h1 : l.length ≠ 0) (h2 : l.length ≤ 128) (hf : faultAt l.length l 0 = some f) : check l = some f := by
  unfold check
  rw [if_neg (by omega), hf]
theorem check_none {l : List Ins} (h1 : l.length ≠ 0) (h2 : l.length ≤ 128) (hf : faultAt l.length l 0 = none) :
    check l = if (l.getD (l.length - 1) default).op ≠ 0 ∧ (l.getD (l.length - 1) default).op ≠ 15 then some (2, l.length - 1) else none := by
  unfold check
  rw [if_neg (by omega), hf]
set_option maxHeartbeats 4000000 in
theorem check_calls (w : World) (A : Option Addr) (c : Nat) (l : List Ins) (h : RIn w w.heap.size A l) (h8 : l.length ≤ 140737488351232) :
    Calls Tryz.prog 7 #[.slice A l.length c] w (RetErr w (check l)) := by
  have HR := Lib.hid h
  clear h
  obtain ⟨n, hn⟩ : ∃ n, n = l.length := ⟨_, rfl⟩
  have HN := Lib.hid hn
  rw [← hn] at h8 ⊢
  clear hn
  rcases (by omega : n = 0 ∨ 128 < n ∨ (0 < n ∧ n ≤ 128)) with h0 | h0 | ⟨h0, h1⟩
  · have hc : Hid (check l = some (1, 0)) := Lib.hid (by unfold check; rw [if_pos (by rw [← HN.out]; omega)])
    go_enter Tryz.func7, Tryz.ntmps7
    go_wp2_with fail
    refine (fault_new w 1 0 (by omega)).mono ?_
    rintro e w2 ⟨⟨v, rfl, hv⟩, hb2⟩
    have HV := Lib.hid hv
    have HB := Lib.hid hb2
    clear hv hb2
    go_wp2
    go_ret
    rw [hc.out]
    exact ⟨⟨v, rfl, HV.out⟩, HB.out⟩
  · have hc : Hid (check l = some (1, 0)) := Lib.hid (by unfold check; rw [if_pos (by rw [← HN.out]; omega)])
    have hne : ((n : Int) == 0) = false := by simp; omega
    go_enter Tryz.func7, Tryz.ntmps7
    go_wp2_with fail
    refine (fault_new w 1 0 (by omega)).mono ?_
    rintro e w2 ⟨⟨v, rfl, hv⟩, hb2⟩
    have HV := Lib.hid hv
    have HB := Lib.hid hb2
    clear hv hb2
    go_wp2
    go_ret
    rw [hc.out]
    exact ⟨⟨v, rfl, HV.out⟩, HB.out⟩
  · have HC : Hid (∀ f, faultAt n l 0 = some f → check l = some f) := Lib.hid fun f hf => check_some (by rw [← HN.out]; omega) (by rw [← HN.out]; exact h1) (by rw [← HN.out]; exact hf)
    have HCN : Hid (faultAt n l 0 = none → check l = if (l.getD (n - 1) default).op ≠ 0 ∧ (l.getD (n - 1) default).op ≠ 15 then some (2, n - 1) else none) := Lib.hid fun hf => by
      have := check_none (l := l) (by rw [← HN.out]; omega) (by rw [← HN.out]; exact h1) (by rw [← HN.out]; exact hf)
      rwa [← HN.out] at this
    have hne : ((n : Int) == 0) = false := by simp; omega
    go_enter Tryz.func7, Tryz.ntmps7
    go_wp2_with fail
    go_loopw [17] (fun s17 wr => ∃ (k : Nat), k ≤ n ∧ s17 = .int .i64 k ∧ Hid (faultAt n (l.drop k) k = faultAt n l 0) ∧ Hid (Below w.heap.size w wr)) (fun s17 _ => n - (intOf s17).toNat)
    case atStart => exact ⟨0, Nat.zero_le _, rfl, Lib.hid rfl, Lib.hid (Below.refl _ _)⟩
    case round =>
      obtain ⟨k, hk, rfl, HT, HB⟩ := hrel
      by_cases hlt : k < n
      · have hkl : k < l.length := by rw [← HN.out]; exact hlt
        obtain ⟨b, o, hA, hb, h0', h1', h2', h3', hfit⟩ := HR.out.get hkl
        subst hA
        obtain ⟨i, hi⟩ : ∃ i, i = l[k] := ⟨_, rfl⟩
        have hst := faultAt_step n l k hkl k
        rw [← hi] at h0' h1' h2' h3' hfit hst
        have d0 : wr.cell? ⟨b, o + k * 4, none⟩ = some (.int .u8 i.op) := (HB.out.cell (p := ⟨b, _, none⟩) hb).trans h0'
        have d1 : wr.cell? ⟨b, o + k * 4 + 1, none⟩ = some (.int .u8 i.a) := (HB.out.cell (p := ⟨b, _, none⟩) hb).trans h1'
        have d2 : wr.cell? ⟨b, o + k * 4 + 2, none⟩ = some (.int .u8 i.b) := (HB.out.cell (p := ⟨b, _, none⟩) hb).trans h2'
        have d3 : wr.cell? ⟨b, o + k * 4 + 3, none⟩ = some (.int .u8 i.c) := (HB.out.cell (p := ⟨b, _, none⟩) hb).trans h3'
        have HF := Lib.hid hfit
        have HST := Lib.hid hst
        have hbw : b < wr.heap.size := Nat.lt_of_lt_of_le hb HB.out.size
        have HBX : Hid (Box (wr.alloc (.cells #[.int .u8 i.op, .int .u8 i.a, .int .u8 i.b, .int .u8 i.c] 94)) wr.heap.size [.int .u8 i.op, .int .u8 i.a, .int .u8 i.b, .int .u8 i.c]) := Box.new wr _ _
        have HBW : Hid (Below w.heap.size w (wr.alloc (.cells #[.int .u8 i.op, .int .u8 i.a, .int .u8 i.b, .int .u8 i.c] 94))) := Lib.hid (HB.out.alloc HB.out.size _)
        clear h0' h1' h2' h3' hfit hst hi hkl hb
        go_wp2_with fail
        refine (wf_calls _ i HF.out).mono ?_
        rintro e w2 ⟨rfl, hb2⟩
        have HX2 := Lib.hid (HBX.out.below hb2 HBX.out.lt)
        have HB2 : Hid (Below w.heap.size w w2) := Lib.hid (HBW.out.trans (hb2.mono HBW.out.size))
        have x0 : w2.cell? ⟨wr.heap.size, 0, none⟩ = some (.int .u8 i.op) := HX2.out.cell rfl
        have x1 : w2.cell? ⟨wr.heap.size, 1, none⟩ = some (.int .u8 i.a) := HX2.out.cell rfl
        have x2 : w2.cell? ⟨wr.heap.size, 2, none⟩ = some (.int .u8 i.b) := HX2.out.cell rfl
        have x3 : w2.cell? ⟨wr.heap.size, 3, none⟩ = some (.int .u8 i.c) := HX2.out.cell rfl
        clear hb2 HBX HBW d0 d1 d2 d3
        cases hwf : wf i with
        | false =>
          have hc : Hid (check l = some (3, k)) := Lib.hid (HC.out _ (by rw [← HT.out, HST.out, if_pos hwf]))
          clear HC HCN HST HT hwf
          go_wp2_with fail
          refine (fault_new w2 3 k (by omega)).mono ?_
          rintro e w3 ⟨⟨v, rfl, hv⟩, hb3⟩
          have HV := Lib.hid hv
          have HB3 : Hid (Below w.heap.size w w3) := Lib.hid (HB2.out.trans (hb3.mono HB2.out.size))
          clear hv hb3
          go_wp2
          go_ret
          rw [hc.out]
          exact ⟨⟨v, rfl, HV.out⟩, HB3.out⟩
        | true =>
        have HWF := Lib.hid hwf
        clear hwf
        go_wp2_with fail
        refine (leads_calls w2 i).mono ?_
        rintro e w3 ⟨rfl, hb3⟩
        have HX3 := Lib.hid (HX2.out.below hb3 HX2.out.lt)
        have HB3 : Hid (Below w.heap.size w w3) := Lib.hid (HB2.out.trans (hb3.mono HB2.out.size))
        clear hb3 HX2 HB2 x0 x1 x2 x3
        have x0 : w3.cell? ⟨wr.heap.size, 0, none⟩ = some (.int .u8 i.op) := HX3.out.cell rfl
        have x1 : w3.cell? ⟨wr.heap.size, 1, none⟩ = some (.int .u8 i.a) := HX3.out.cell rfl
        have x2 : w3.cell? ⟨wr.heap.size, 2, none⟩ = some (.int .u8 i.b) := HX3.out.cell rfl
        have x3 : w3.cell? ⟨wr.heap.size, 3, none⟩ = some (.int .u8 i.c) := HX3.out.cell rfl
        cases hld : leads i with
        | false =>
          have HT' : Hid (faultAt n (l.drop (k + 1)) (k + 1) = faultAt n l 0) := Lib.hid (by rw [← HT.out, HST.out, if_neg (by rw [HWF.out]; simp), if_neg (by rw [hld]; simp)])
          clear HST HT hld
          go_wp2
          go_roundw
          case rel => exact ⟨k + 1, by omega, by go_num, HT', HB3⟩
          case measure => simp [intOf]; omega
        | true =>
        have HLD := Lib.hid hld
        clear hld
        go_wp2_with fail
        refine (number_calls' w3 i HF.out).mono ?_
        rintro e w4 ⟨rfl, hb4⟩
        have HX4 := Lib.hid (HX3.out.below hb4 HX3.out.lt)
        have HB4 : Hid (Below w.heap.size w w4) := Lib.hid (HB3.out.trans (hb4.mono HB3.out.size))
        clear hb4 HX3 HB3 x0 x1 x2 x3
        obtain ⟨z, hz⟩ : ∃ z, z = num i := ⟨_, rfl⟩
        have HZ := Lib.hid hz
        rw [← hz]
        clear hz
        by_cases hnz : (n : Int) ≤ z
        · have hc : Hid (check l = some (4, k)) := Lib.hid (HC.out _ (by rw [← HT.out, HST.out, if_neg (by rw [HWF.out]; simp), if_pos ⟨HLD.out, by rw [← HZ.out]; exact hnz⟩]))
          clear HC HCN HST HT
          go_wp2_with fail
          refine (fault_new w4 4 k (by omega)).mono ?_
          rintro e w5 ⟨⟨v, rfl, hv⟩, hb5⟩
          have HV := Lib.hid hv
          have HB5 : Hid (Below w.heap.size w w5) := Lib.hid (HB4.out.trans (hb5.mono HB4.out.size))
          clear hv hb5
          go_wp2
          go_ret
          rw [hc.out]
          exact ⟨⟨v, rfl, HV.out⟩, HB5.out⟩
        · have HT' : Hid (faultAt n (l.drop (k + 1)) (k + 1) = faultAt n l 0) := Lib.hid (by rw [← HT.out, HST.out, if_neg (by rw [HWF.out]; simp), if_neg (by rw [← HZ.out]; exact fun h => hnz h.2)])
          clear HST HT
          go_wp2
          go_roundw
          case rel => exact ⟨k + 1, by omega, by go_num, HT', HB4⟩
          case measure => simp [intOf]; omega
      · have hkn : k = n := by omega
        subst hkn
        have hnone : faultAt k l 0 = none := by rw [← HT.out, List.drop_of_length_le (by rw [← HN.out]; exact Nat.le_refl _)]; rfl
        have hck := HCN.out hnone
        have hkl : k - 1 < l.length := by rw [← HN.out]; omega
        obtain ⟨b, o, hA, hb, h0', h1', h2', h3', hfit⟩ := HR.out.get hkl
        subst hA
        obtain ⟨op, hop⟩ : ∃ op, op = (l[k - 1]'hkl).op := ⟨_, rfl⟩
        rw [← hop] at h0'
        have hgd : (l.getD (k - 1) default).op = op := by rw [List.getD_eq_getElem?_getD, List.getElem?_eq_getElem hkl, hop]; rfl
        have d0 : wr.cell? ⟨b, o + (k - 1) * 4, none⟩ = some (.int .u8 op) := (HB.out.cell (p := ⟨b, _, none⟩) hb).trans h0'
        have HCK := Lib.hid hck
        have HGD := Lib.hid hgd
        have hk1 : k - 1 < k := by omega
        obtain ⟨j, hj⟩ : ∃ j, j = k - 1 := ⟨_, rfl⟩
        have hjk : (k : Int) - 1 = (j : Int) := by omega
        rw [← hj] at d0 hk1 HCK HGD
        have HJ := Lib.hid hj
        clear hgd hnone hck hfit h1' h2' h3' hop h0' hj hkl hb HCN HC HT hlt
        rcases (by omega : op = 0 ∨ op = 15 ∨ (op ≠ 0 ∧ op ≠ 15)) with hop | hop | ⟨hop, hop2⟩
        · have hc : Hid (check l = none) := Lib.hid (by rw [HCK.out, if_neg (by rw [HGD.out]; omega)])
          subst hop
          clear HCK
          go_wp2
          go_ret
          rw [hc.out]
          exact ⟨⟨_, rfl, rfl⟩, HB.out⟩
        · have hc : Hid (check l = none) := Lib.hid (by rw [HCK.out, if_neg (by rw [HGD.out]; omega)])
          subst hop
          clear HCK
          go_wp2
          go_ret
          rw [hc.out]
          exact ⟨⟨_, rfl, rfl⟩, HB.out⟩
        · have hc : Hid (check l = some (2, j)) := Lib.hid (by rw [HCK.out, if_pos (by rw [HGD.out]; exact ⟨hop, hop2⟩)])
          have hb1 : ((op : Int) != 0) = true := by simp; omega
          have hb2 : ((op : Int) != 15) = true := by simp; omega
          clear HCK hop hop2
          go_wp2_with fail
          refine (fault_new wr 2 j (by omega)).mono ?_
          rintro e w5 ⟨⟨v, rfl, hv⟩, hb5⟩
          have HV := Lib.hid hv
          have HB5 : Hid (Below w.heap.size w w5) := Lib.hid (HB.out.trans (hb5.mono HB.out.size))
          clear hv hb5
          go_wp2
          go_ret
          rw [hc.out]
          exact ⟨⟨v, rfl, HV.out⟩, HB5.out⟩
/- pvm: illFormed, truth, result. -/
theorem code_nil (w : World) :
    Calls Tryz.prog 42 #[.nilIface] w fun e w' => e = .returned (.int .i64 0) ∧ Below w.heap.size w w' := by
  go_enter Tryz.func42, Tryz.ntmps42
  go_wp2_with fail
  refine (outer_nil w).mono ?_
  rintro e w2 ⟨rfl, hb2⟩
  have HB := Lib.hid hb2
  clear hb2
  go_wp2
  go_ret
  exact ⟨rfl, HB.out⟩
theorem check_bad (i : Ins) (h : wf i = false) : check [i] = some (3, 0) := by simp [check, faultAt, h]
theorem check_well (i : Ins) (h : wf i = true) : check [i] = none ∨ ∃ c k, c ≠ 3 ∧ check [i] = some (c, k) := by
  unfold check
  rw [if_neg (by simp)]
  simp only [faultAt, h, List.length_cons, List.length_nil]
  rw [if_neg (by simp)]
  split
  · rename_i f hf
    split at hf
    · injection hf with hf
      subst hf
      exact .inr ⟨4, 0, by decide, rfl⟩
    · cases hf
  · split
    · exact .inr ⟨2, 0, by decide, rfl⟩
    · exact .inl rfl
set_option maxHeartbeats 4000000 in
theorem ill_calls (w : World) (hd : Hdl w) (i : Ins) (h : i.fits) : Calls Tryz.prog 71 #[.agg #[.int .u8 i.op, .int .u8 i.a, .int .u8 i.b, .int .u8 i.c]] w (RetB w (!wf i)) := by
  have HF := Lib.hid h
  have HD := Lib.hid hd
  obtain ⟨W, hW⟩ : ∃ W, W = (w.alloc (.cells #[.int .u8 i.op, .int .u8 i.a, .int .u8 i.b, .int .u8 i.c] 94)).alloc (.cells #[.int .u8 i.op, .int .u8 i.a, .int .u8 i.b, .int .u8 i.c] 94) := ⟨_, rfl⟩
  have HB : Hid (Below w.heap.size w W) := Lib.hid (by rw [hW]; exact ((Below.refl _ _).alloc (Nat.le_refl _) _).alloc (by simp) _)
  have hbx : Box W (w.heap.size + 1) [.int .u8 i.op, .int .u8 i.a, .int .u8 i.b, .int .u8 i.c] := by
    rw [hW]
    have := Box.new (w.alloc (.cells #[.int .u8 i.op, .int .u8 i.a, .int .u8 i.b, .int .u8 i.c] 94)) [.int .u8 i.op, .int .u8 i.a, .int .u8 i.b, .int .u8 i.c] 94
    rwa [show (w.alloc (.cells #[.int .u8 i.op, .int .u8 i.a, .int .u8 i.b, .int .u8 i.c] 94)).heap.size = w.heap.size + 1 by simp] at this
  have HRI : Hid (RIn W W.heap.size (some ⟨w.heap.size + 1, 0, none⟩) [i]) := Lib.hid fun _ => by
    refine ⟨w.heap.size + 1, 0, rfl, hbx.lt, fun j hj => ?_⟩
    obtain rfl : j = 0 := by simp at hj; omega
    exact ⟨hbx.cell rfl, hbx.cell rfl, hbx.cell rfl, hbx.cell rfl, HF.out⟩
  clear hbx hd h
  go_enter Tryz.func71, Tryz.ntmps71
  go_wp2_with fail
  rw [← hW]
  clear hW
  refine (check_calls W (some ⟨w.heap.size + 1, 0, none⟩) 1 [i] HRI.out (by simp)).mono ?_
  rintro e w2 ⟨⟨v, rfl, hv⟩, hb2⟩
  have HB2 : Hid (Below w.heap.size w w2) := Lib.hid (HB.out.trans (hb2.mono HB.out.size))
  have HD2 : Hid (Hdl w2) := HD.out.below HB2.out HD.out.lt
  clear hb2 HRI
  cases hw : wf i with
  | false =>
    rw [check_bad i hw] at hv
    obtain ⟨g, rfl, hbox⟩ := hv
    have HX := Lib.hid hbox
    have HW := Lib.hid hw
    clear hbox hw
    go_wp2_with fail
    refine (code_hit w2 g _ _ HD2.out HX.out).mono ?_
    rintro e w3 ⟨rfl, hb3⟩
    have HB3 : Hid (Below w.heap.size w w3) := Lib.hid (HB2.out.trans (hb3.mono HB2.out.size))
    clear hb3
    go_wp2
    go_ret
    exact retB (by rw [HW.out]; rfl) HB3.out
  | true =>
  rcases check_well i hw with hc | ⟨c, k, hc3, hc⟩
  · rw [hc] at hv
    have hv' : v = .nilIface := hv
    subst hv'
    have HW := Lib.hid hw
    clear hv hw hc
    go_wp2_with fail
    refine (code_nil w2).mono ?_
    rintro e w3 ⟨rfl, hb3⟩
    have HB3 : Hid (Below w.heap.size w w3) := Lib.hid (HB2.out.trans (hb3.mono HB2.out.size))
    clear hb3
    go_wp2
    go_ret
    exact retB (by rw [HW.out]; rfl) HB3.out
  · rw [hc] at hv
    obtain ⟨g, rfl, hbox⟩ := hv
    have HX := Lib.hid hbox
    have hcb : ((c : Int) == 3) = false := by simp; omega
    have HW := Lib.hid hw
    clear hbox hw hc hc3
    go_wp2_with fail
    refine (code_hit w2 g _ _ HD2.out HX.out).mono ?_
    rintro e w3 ⟨rfl, hb3⟩
    have HB3 : Hid (Below w.heap.size w w3) := Lib.hid (HB2.out.trans (hb3.mono HB2.out.size))
    clear hb3
    go_wp2
    go_ret
    exact retB (by rw [HW.out]; rfl) HB3.out
theorem truth_calls (w : World) (b : Bool) : Calls Tryz.prog 111 #[.bool b] w fun e w' => e = .returned (.int .i64 (if b then 1 else 0)) ∧ w = w' := by
  cases b
  all_goals
    go_enter Tryz.func111, Tryz.ntmps111
    go_wp2
    go_ret
    exact ⟨rfl, rfl⟩
set_option maxHeartbeats 4000000 in
theorem result_calls (w : World) (op : Nat) (b c : Int) (hop : 3 ≤ op ∧ op ≤ 12) (hc : (op = 6 ∨ op = 7) → c ≠ 0) : Calls Tryz.prog 94 #[.int .u8 op, .int .i64 b, .int .i64 c] w fun e w' => e = .returned (.int .i64 (res op b c)) ∧ w = w' := by
  have hcb : (op = 6 ∨ op = 7) → (c == 0) = false := fun h => by simp; exact hc h
  rcases (by omega : op = 3 ∨ op = 4 ∨ op = 5 ∨ op = 6 ∨ op = 7 ∨ op = 8 ∨ op = 9 ∨ op = 10 ∨ op = 11 ∨ op = 12) with rfl | rfl | rfl | rfl | rfl | rfl | rfl | rfl | rfl | rfl
  all_goals
    first
      | (have hc0 := hcb (by omega); have hc1 : ¬ c = 0 := hc (by omega); clear hcb hc)
      | clear hcb hc
    go_enter Tryz.func94, Tryz.ntmps94
    go_wp2_with (go_at_call 111; refine (truth_calls _ _).mono ?_; rintro e w' ⟨rfl, rfl⟩)
    all_goals
      go_ret
      first
        | exact ⟨rfl, rfl⟩
        | (refine ⟨?_, rfl⟩; show Ending.returned (.int .i64 1) = _; simp_all [res]; done)
        | (refine ⟨?_, rfl⟩; show Ending.returned (.int .i64 0) = _; simp_all [res]; done)
        | (refine ⟨?_, rfl⟩; show Ending.returned (.int .i64 0) = _; simp [res]; omega)
end Go.Proofs.YtjfpoahmjgeogaaGreatDoor
/- append of a row onto a row, over whatever program. -/
namespace Go.Proofs.YtjfpoahmjgeogaaGreatDoor
open Go.RowKit Nac
section
variable {P : Program} (w : World)
def Src (w : World) (A : Option Addr) (news : List Value) : Prop := news ≠ [] → ∃ ad, A = some ad ∧ ∀ j u, news[j]? = some u → w.cell? (ad.add j) = some u
theorem own_form {base : Nat} {e : TypeId} {size : Nat} {v : Value} {n : Nat} {xs : List Value} (h : w.ownsRow base e size v n xs) : ∃ A c, v = .slice A n c := by
  rcases h.2 with ⟨rfl, rfl⟩ | ⟨g, cap, cur, rfl, _⟩
  · exact ⟨_, _, rfl⟩
  · exact ⟨_, _, rfl⟩
theorem run_app_none (base : Nat) (t ty e : TypeId) (i : TypeInfo) (size : Nat) (ht : P.underlying t = some (.slice e)) (hi : P.info? e = some i)
    (v : Value) (n : Nat) (xs : List Value) (hown : w.ownsRow base e size v n xs) (c : Nat) : (Builtin.append_ #[t, t] ty #[v, .slice none 0 c]).run P w = .ok v w := by
  rcases hown.2 with ⟨rfl, rfl⟩ | ⟨g, cap, cur, rfl, _, _, hnc, _⟩
  · simp [Builtin.append_, run_underlying ht, sizeOf, typeInfo, hi, Builtin.lenOf, Builtin.firstCells]
  · simp [Builtin.append_, run_underlying ht, sizeOf, typeInfo, hi, Builtin.lenOf, Builtin.firstCells, hnc, storeCells]
theorem run_app (base : Nat) (t ty e : TypeId) (z : Value) (size bytes : Nat) (ht : P.underlying t = some (.slice e)) (hinfo : (P.info? e).map (fun i => (i.zero, i.size, i.bytes)) = some (some z, size, bytes))
    (hzs : z.cells.size = size) (hsz : 0 < size) (A : Option Addr) (n c : Nat) (xs : List Value) (hown : w.ownsRow base e size (.slice A n c) n xs)
    (A2 : Option Addr) (m c2 : Nat) (news : List Value) (hl : news.length = m * size) (hs : Src w A2 news) (h1 : ∀ u ∈ news, u.oneCell' = true)
    (hbytes : (n + m) * bytes ≤ 140737488355328) (h63 : n + m ≤ maxLen) (hbase : base ≤ w.heap.size) :
    ∃ A' c' w', (Builtin.append_ #[t, t] ty #[.slice A n c, .slice A2 m c2]).run P w = .ok (.slice A' (n + m) c') w' ∧ w'.ownsRow base e size (.slice A' (n + m) c') (n + m) (xs ++ news) ∧
      w.grownBy w' (A.map (·.block)) ∧ (A'.map (·.block) = A.map (·.block) ∨ A'.map (·.block) = some w.heap.size) := by
  obtain ⟨i, hi, hz, hs1, hb1⟩ := info_parts hinfo
  have eb : Value.ownBlock (.slice A n c) = A.map (·.block) := by cases A <;> rfl
  rcases A2 with _ | ad
  · have hnews : news = [] := by
      apply Classical.byContradiction
      intro hne
      obtain ⟨ad, h, _⟩ := hs hne
      cases h
    subst hnews
    have hm : m = 0 := by
      rcases Nat.eq_zero_or_pos m with h | h
      · exact h
      · have := Nat.mul_pos h hsz
        simp at hl
        omega
    subst hm
    exact ⟨A, c, w, run_app_none w base t ty e i size ht hi _ n xs hown c2, by simpa using hown, World.grownBy.refl w _, .inl rfl⟩
  · have hc : ∀ j u, news[j]? = some u → w.cell? (ad.add j) = some u := by
      intro j u hu
      obtain ⟨ad', h, hh⟩ := hs (by rintro rfl; simp at hu)
      injection h with h
      subst h
      exact hh j u hu
    obtain ⟨v', w', hr, h2, h3, _, h5⟩ := run_append_own_at (P := P) w base t ty e i z size bytes ht hi hz hs1 hb1 hzs hsz _ n xs hown ad m c2 news hl hc h1 h63 hbytes hbase
    obtain ⟨A', c', rfl⟩ := own_form w' h2
    have eb' : Value.ownBlock (.slice A' (n + m) c') = A'.map (·.block) := by cases A' <;> rfl
    rw [eb] at h3 h5
    rw [eb'] at h5
    exact ⟨A', c', w', hr, h2, h3, h5⟩
theorem wpList_app {ops : Array Oper} {rest : List Oper} {o : Oper} {a : Act} {Q : Exit → Act → World → Prop} (hgd : o.guard = none) (s x : Operand) (t : TypeId)
    (ho : o.op = .call { callee := .builtin .append, args := #[s, x], argTypes := #[t, t] })
    (base : Nat) (e : TypeId) (z : Value) (size bytes : Nat) (ht : P.underlying t = some (.slice e)) (hinfo : (P.info? e).map (fun i => (i.zero, i.size, i.bytes)) = some (some z, size, bytes))
    (hzs : z.cells.size = size) (hsz : 0 < size) (A : Option Addr) (n c : Nat) (xs : List Value) (hs : a.eval s = .slice A n c) (hown : w.ownsRow base e size (.slice A n c) n xs)
    (A2 : Option Addr) (m c2 : Nat) (news : List Value) (hx : a.eval x = .slice A2 m c2) (hl : news.length = m * size) (hsrc : Src w A2 news) (h1 : ∀ u ∈ news, u.oneCell' = true)
    (hbytes : (n + m) * bytes ≤ 140737488355328) (h63 : n + m ≤ maxLen) (hbase : base ≤ w.heap.size)
    (h : ∀ A' c' w', w'.ownsRow base e size (.slice A' (n + m) c') (n + m) (xs ++ news) → w.grownBy w' (A.map (·.block)) → (A'.map (·.block) = A.map (·.block) ∨ A'.map (·.block) = some w.heap.size) →
      wpList P ops Q rest (a.put o.dst (.slice A' (n + m) c')) w') : wpList P ops Q (o :: rest) a w := by
  obtain ⟨A', c', w', hr, h2, h3, h4⟩ := run_app (P := P) w base t o.type e z size bytes ht hinfo hzs hsz A n c xs hown A2 m c2 news hl hsrc h1 hbytes h63 hbase
  refine wpList_plain hgd fun K hK => ?_
  unfold Oper.wp execOp
  simp only [ho, resolve, invoke, builtin, Sem.run_bind, Sem.run_pure, Result.andThen_ok, List.map_toArray, List.map_cons, List.map_nil, hs, hx, hr]
  exact hK _ _ (h A' c' w' h2 h3 h4)
end
/- Bytes that a call makes itself, append onto them, and what a conversion to a string gives: laws of our own over this seat's numbers. -/
theorem Tryz.infoByte : (Tryz.prog.info? 5).map (fun i => (i.zero, i.size, i.bytes)) = some (some (.int .u8 0), 1, 1) := by kernel_rfl


def OB (w : World) (base : Nat) (A : Option Addr) (c : Nat) (l : List UInt8) : Prop := w.ownsRow base 5 1 (.slice A l.length c) l.length (l.map bv)
section
variable {w w' : World} {base B : Nat} {A : Option Addr} {c : Nat} {l : List UInt8}
theorem OB.nil (w : World) (base : Nat) : OB w base none 0 [] := World.ownsRow_nil w base _ _
theorem OB.rb (h : OB w base A c l) : RB w w.heap.size A l := fun hne => by
  rcases h.2 with ⟨hv, hn⟩ | ⟨g, cap, cur, hv, hb, hg, hnc, hcm, hcs, ht⟩
  · exact absurd (List.eq_nil_of_length_eq_zero hn) hne
  · injection hv with h1 h2 h3
    subst h1
    refine ⟨g, 0, rfl, (Array.getElem?_eq_some_iff.1 hg).1, fun j hj => ?_⟩
    rw [cell_of_row w g (0 + j) cur _ (0, 0) hg, Nat.zero_add]
    have e : (l.map bv)[j]? = some (bv l[j]) := by simp [hj]
    rw [← ht, List.getElem?_take_of_lt (by omega)] at e
    simpa [bv] using e
theorem OB.kept (h : OB w base A c l) {row : Option Nat} (hg : w.grownBy w' row) (hne : A = none ∨ A.map (·.block) ≠ row) : OB w' base A c l :=
  World.ownsRow.kept h hg (by cases A <;> simp_all [Value.ownBlock])
theorem OB.alloc (h : OB w base A c l) (o : Obj) : OB (w.alloc o) base A c l := World.ownsRow.alloc h o
theorem OB.drew (h : OB w base A c l) : OB w.drew base A c l := h
theorem OB.drewN (h : OB w base A c l) (n : Nat) : OB (w.drewN n) base A c l := h
theorem OB.lt (h : OB w base A c l) : ∀ g, A.map (·.block) = some g → base ≤ g ∧ g < w.heap.size := fun g hg => World.ownsRow.lt h g (by cases A <;> simp_all [Value.ownBlock])
theorem OB.below (h : OB w base A c l) (hb : Below B w w') (hB : w.heap.size ≤ B) : OB w' base A c l := by
  refine World.ownsRow.kept h (row := none) ⟨hb.os, hb.tape, hb.output, hb.size, fun k hk _ => hb.block k (by omega)⟩ ?_
  cases A <;> simp [Value.ownBlock]
theorem OB.len (h : OB w base A c l) : l.length ≤ c := by
  rcases h.2 with ⟨hv, hn⟩ | ⟨g, cap, cur, hv, hb, hg, hnc, hcm, hcs, ht⟩
  · injection hv with h1 h2 h3; omega
  · injection hv with h1 h2 h3; omega
theorem OB.mono {base' : Nat} (h : OB w base A c l) (hb : base' ≤ base) : OB w base' A c l := by
  refine ⟨h.1, ?_⟩
  rcases h.2 with h | ⟨g, cap, cur, hv, hbg, r⟩
  · exact .inl h
  · exact .inr ⟨g, cap, cur, hv, by omega, r⟩
theorem OB.new (w : World) (hb : base ≤ w.heap.size) (l : List UInt8) (hm : l.length ≤ 9223372036854775807) : OB (w.alloc (.cells (l.map bv).toArray 5)) base (some ⟨w.heap.size, 0, none⟩) l.length l := by
  refine ⟨by simp, .inr ⟨w.heap.size, l.length, (l.map bv).toArray, rfl, hb, heap_alloc_new w _, Nat.le_refl _, hm, by simp, by rw [List.take_of_length_le (by simp)]⟩⟩
end
theorem bv_oneCell (l : List UInt8) : ∀ u ∈ l.map bv, u.oneCell' = true := by
  intro u hu
  obtain ⟨_, _, rfl⟩ := List.mem_map.1 hu
  rfl
theorem rb_src {w : World} {B : Nat} {A : Option Addr} {l : List UInt8} (h : RB w B A l) : Src w A (l.map bv) := fun hne => by
  obtain ⟨b, o, hA, _, hc⟩ := h (by rintro rfl; simp at hne)
  refine ⟨_, hA, fun j u hu => ?_⟩
  obtain ⟨x, hx, rfl⟩ := List.getElem?_map .. ▸ hu |> Option.map_eq_some_iff.1
  obtain ⟨hj, rfl⟩ := List.getElem?_eq_some_iff.1 hx
  have e : (⟨b, o, none⟩ : Addr).add j = ⟨b, o + j, none⟩ := by unfold Addr.add; split <;> simp_all
  rw [e]
  exact hc j hj
theorem rb_new (w : World) (t : TypeId) (l : List UInt8) : RB (w.alloc (.cells (l.map bv).toArray t)) (w.heap.size + 1) (some ⟨w.heap.size, 0, none⟩) l := fun _ => by
  refine ⟨w.heap.size, 0, rfl, by omega, fun j hj => ?_⟩
  rw [World.cell?_alloc_at _ _ _ _ rfl]
  simp [bv, hj]
theorem below_app {B base : Nat} {a w w' : World} {A : Option Addr} {c : Nat} {l : List UInt8} (h : Below B a w) (hg : w.grownBy w' (A.map (·.block))) (ho : OB w base A c l) (hB : B ≤ w.heap.size) (hb : B ≤ base) : Below B a w' :=
  h.grown hg hB (fun k hk => Nat.le_trans hb (ho.lt k hk).1)
theorem wpList_app_bytes (w : World) {ops : Array Oper} {rest : List Oper} {o : Oper} {a : Act} {Q : Exit → Act → World → Prop} (hgd : o.guard = none) (s x : Operand)
    (ho : o.op = .call { callee := .builtin .append, args := #[s, x], argTypes := #[36, 36] })
    (base : Nat) (A : Option Addr) (c : Nat) (l : List UInt8) (n : Nat) (hs : a.eval s = .slice A n c) (hn : n = l.length) (hown : OB w base A c l)
    (A2 : Option Addr) (c2 : Nat) (l2 : List UInt8) (m : Nat) (hx : a.eval x = .slice A2 m c2) (hm : m = l2.length) {B : Nat} (hsrc : RB w B A2 l2)
    (hbytes : l.length + l2.length ≤ 140737488355328) (hbase : base ≤ w.heap.size)
    (h : ∀ A' c' L w', Hid (L = l ++ l2) → OB w' base A' c' L → w.grownBy w' (A.map (·.block)) → (A'.map (·.block) = A.map (·.block) ∨ A'.map (·.block) = some w.heap.size) →
      wpList Tryz.prog ops Q rest (a.put o.dst (.slice A' L.length c')) w') : wpList Tryz.prog ops Q (o :: rest) a w := by
  subst hn
  subst hm
  refine wpList_app w hgd s x 36 ho base 5 (.int .u8 0) 1 1 Tryz.underlying36 Tryz.infoByte rfl (by decide) A l.length c (l.map bv) hs hown A2 l2.length c2 (l2.map bv) hx (by simp) (rb_src hsrc) (bv_oneCell l2) (by omega) (by unfold maxLen; omega) hbase ?_
  intro A' c' w' h2 h3 h4
  have := h A' c' (l ++ l2) w' rfl (by unfold OB; rw [List.map_append, List.length_append]; exact h2) h3 h4
  rw [List.length_append] at this
  exact this
def RetOB (w : World) (l : List UInt8) (e : Ending) (w' : World) : Prop := ∃ A c, e = .returned (.slice A l.length c) ∧ OB w' w.heap.size A c l ∧ Below w.heap.size w w'
theorem wpList_make0_bytes (w : World) {ops : Array Oper} {rest : List Oper} {o : Oper} {a : Act} {Q : Exit → Act → World → Prop} (hg : o.guard = none) (l c : Operand) (hop : o.op = Op.makeSlice 36 l c)
    (base : Nat) (kl kc : IntKind) (C : Int) (n : Nat) (hl : a.eval l = .int kl 0) (hc : a.eval c = .int kc C) (hC : C = (n : Int)) (b2 : n ≤ 281474976710656) (b4 : base ≤ w.heap.size)
    (hK : ∀ w', OB w' base (some ⟨w.heap.size, 0, none⟩) n [] → w.grownBy w' none → wpList Tryz.prog ops Q rest (a.put o.dst (.slice (some ⟨w.heap.size, 0, none⟩) 0 n)) w') :
    wpList Tryz.prog ops Q (o :: rest) a w := by
  obtain ⟨i, hi, hz, hs1, hb1⟩ := info_parts Tryz.infoByte
  exact wpList_make_own w hg l c 36 hop base 5 i (.int .u8 0) 1 Tryz.underlying36 hi hz hs1 kl kc C n hl hc hC (by rw [hb1]; omega) (by unfold maxLen; omega) b4 hK
/- Rows of 64-bit words that a call makes itself: reading, storing, append, make; slices.Clone. -/
def RWd (w : World) (B : Nat) (A : Option Addr) (l : List Int) : Prop :=
  l ≠ [] → ∃ b o, A = some ⟨b, o, none⟩ ∧ b < B ∧ ∀ j (h : j < l.length), w.cell? ⟨b, o + j, none⟩ = some (.int .i64 l[j])
theorem RWd.get {w : World} {B : Nat} {A : Option Addr} {l : List Int} (h : RWd w B A l) {k : Nat} (hk : k < l.length) :
    ∃ b o, A = some ⟨b, o, none⟩ ∧ b < B ∧ w.cell? ⟨b, o + k, none⟩ = some (.int .i64 l[k]) := by
  obtain ⟨b, o, hA, hb, hc⟩ := h (by intro e; subst e; simp at hk)
  exact ⟨b, o, hA, hb, hc k hk⟩
theorem RWd.below {w w' : World} {B : Nat} {A : Option Addr} {l : List Int} (h : RWd w B A l) (hb : Below B w w') : RWd w' B A l := fun hn => by
  obtain ⟨b, o, hA, hlt, hc⟩ := h hn
  exact ⟨b, o, hA, hlt, fun j hj => (hb.cell (p := ⟨b, o + j, none⟩) hlt).trans (hc j hj)⟩
theorem RWd.mono {w : World} {B B' : Nat} {A : Option Addr} {l : List Int} (h : RWd w B A l) (hB : B ≤ B') : RWd w B' A l := fun hn => by
  obtain ⟨b, o, hA, hb, hc⟩ := h hn
  exact ⟨b, o, hA, by omega, hc⟩
theorem RWd.take {w : World} {B : Nat} {A : Option Addr} {l : List Int} (h : RWd w B A l) (k : Nat) : RWd w B A (l.take k) := fun hn => by
  obtain ⟨b, o, hA, hb, hc⟩ := h (by rintro rfl; simp at hn)
  refine ⟨b, o, hA, hb, fun j hj => ?_⟩
  have := hc j (by simp at hj; omega)
  rw [List.getElem_take, ← this]
theorem Tryz.infoWord : (Tryz.prog.info? 2).map (fun i => (i.zero, i.size, i.bytes)) = some (some (.int .i64 0), 1, 8) := by kernel_rfl
def OW (w : World) (base : Nat) (A : Option Addr) (c : Nat) (l : List Int) : Prop := w.ownsRow base 2 1 (.slice A l.length c) l.length (l.map (Value.int .i64))
section
variable {w w' : World} {base B : Nat} {A : Option Addr} {c : Nat} {l : List Int}
theorem OW.nil (w : World) (base : Nat) : OW w base none 0 [] := World.ownsRow_nil w base _ _
theorem OW.kept (h : OW w base A c l) {row : Option Nat} (hg : w.grownBy w' row) (hne : A = none ∨ A.map (·.block) ≠ row) : OW w' base A c l :=
  World.ownsRow.kept h hg (by cases A <;> simp_all [Value.ownBlock])
theorem OW.alloc (h : OW w base A c l) (o : Obj) : OW (w.alloc o) base A c l := World.ownsRow.alloc h o
theorem OW.drew (h : OW w base A c l) : OW w.drew base A c l := h
theorem OW.lt (h : OW w base A c l) : ∀ g, A.map (·.block) = some g → base ≤ g ∧ g < w.heap.size := fun g hg => World.ownsRow.lt h g (by cases A <;> simp_all [Value.ownBlock])
theorem OW.below (h : OW w base A c l) (hb : Below B w w') (hB : w.heap.size ≤ B) : OW w' base A c l := by
  refine World.ownsRow.kept h (row := none) ⟨hb.os, hb.tape, hb.output, hb.size, fun k hk _ => hb.block k (by omega)⟩ ?_
  cases A <;> simp [Value.ownBlock]
theorem OW.len (h : OW w base A c l) : l.length ≤ c := by
  rcases h.2 with ⟨hv, hn⟩ | ⟨g, cap, cur, hv, hb, hg, hnc, hcm, hcs, ht⟩
  · injection hv with h1 h2 h3; omega
  · injection hv with h1 h2 h3; omega
theorem OW.new (w : World) (hb : base ≤ w.heap.size) (l : List Int) (hm : l.length ≤ 9223372036854775807) : OW (w.alloc (.cells (l.map (Value.int .i64)).toArray 2)) base (some ⟨w.heap.size, 0, none⟩) l.length l := by
  refine ⟨by simp, .inr ⟨w.heap.size, l.length, (l.map (Value.int .i64)).toArray, rfl, hb, heap_alloc_new w _, Nat.le_refl _, hm, by simp, by rw [List.take_of_length_le (by simp)]⟩⟩
theorem OW.at (h : OW w base A c l) {k : Nat} (hk : k < l.length) :
    ∃ g, A = some ⟨g, 0, none⟩ ∧ base ≤ g ∧ g < w.heap.size ∧ w.cell? ⟨g, k, none⟩ = some (.int .i64 l[k]) ∧ w.frozen? ⟨g, k, none⟩ = false := by
  rcases h.2 with ⟨hv, hn⟩ | ⟨g, cap, cur, hv, hb, hg, hnc, hcm, hcs, ht⟩
  · omega
  · injection hv with h1 h2 h3
    subst h1
    refine ⟨g, rfl, hb, (Array.getElem?_eq_some_iff.1 hg).1, ?_, ?_⟩
    · rw [cell_of_row w g k cur _ (0, 0) hg]
      have e : (l.map (Value.int .i64))[k]? = some (.int .i64 l[k]) := by simp [hk]
      rw [← ht, List.getElem?_take_of_lt (by omega)] at e
      simpa using e
    · unfold World.frozen?
      simp [hg]
theorem OW.rw (h : OW w base A c l) : RWd w w.heap.size A l := fun hne => by
  have hpos : 0 < l.length := by cases l; exact absurd rfl hne; simp
  obtain ⟨g, rfl, _, hg, _⟩ := h.at hpos
  refine ⟨g, 0, rfl, hg, fun j hj => ?_⟩
  obtain ⟨g', he, _, _, hc, _⟩ := h.at hj
  injection he with he
  injection he with he
  subst he
  rw [Nat.zero_add]
  exact hc
theorem OW.set {g : Nat} (h : OW w base (some ⟨g, 0, none⟩) c l) (k : Nat) (x : Int) : OW (w.setCell ⟨g, k, none⟩ (.int .i64 x)) base (some ⟨g, 0, none⟩) c (l.set k x) := by
  have := (World.ownsRow.stored h k (.int .i64 x)).1
  unfold OW
  rw [List.map_set, List.length_set]
  exact this
end
theorem words_one (l : List Int) : ∀ u ∈ l.map (Value.int .i64), u.oneCell' = true := by
  intro u hu
  obtain ⟨_, _, rfl⟩ := List.mem_map.1 hu
  rfl
theorem rw_src {w : World} {B : Nat} {A : Option Addr} {l : List Int} (h : RWd w B A l) : Src w A (l.map (Value.int .i64)) := fun hne => by
  obtain ⟨b, o, hA, _, hc⟩ := h (by rintro rfl; simp at hne)
  refine ⟨_, hA, fun j u hu => ?_⟩
  obtain ⟨x, hx, rfl⟩ := List.getElem?_map .. ▸ hu |> Option.map_eq_some_iff.1
  obtain ⟨hj, rfl⟩ := List.getElem?_eq_some_iff.1 hx
  have e : (⟨b, o, none⟩ : Addr).add j = ⟨b, o + j, none⟩ := by unfold Addr.add; split <;> simp_all
  rw [e]
  exact hc j hj
theorem wpList_app_words (w : World) {ops : Array Oper} {rest : List Oper} {o : Oper} {a : Act} {Q : Exit → Act → World → Prop} (hgd : o.guard = none) (s x : Operand)
    (ho : o.op = .call { callee := .builtin .append, args := #[s, x], argTypes := #[59, 59] })
    (base : Nat) (A : Option Addr) (c : Nat) (l : List Int) (n : Nat) (hs : a.eval s = .slice A n c) (hn : n = l.length) (hown : OW w base A c l)
    (A2 : Option Addr) (c2 : Nat) (l2 : List Int) (m : Nat) (hx : a.eval x = .slice A2 m c2) (hm : m = l2.length) {B : Nat} (hsrc : RWd w B A2 l2)
    (hbytes : l.length + l2.length ≤ 17592186044416) (hbase : base ≤ w.heap.size)
    (h : ∀ A' c' L w', Hid (L = l ++ l2) → OW w' base A' c' L → w.grownBy w' (A.map (·.block)) → wpList Tryz.prog ops Q rest (a.put o.dst (.slice A' L.length c')) w') : wpList Tryz.prog ops Q (o :: rest) a w := by
  subst hn
  subst hm
  refine wpList_app w hgd s x 59 ho base 2 (.int .i64 0) 1 8 Tryz.underlying59 Tryz.infoWord rfl (by decide) A l.length c (l.map (Value.int .i64)) hs hown A2 l2.length c2 (l2.map (Value.int .i64)) hx (by simp) (rw_src hsrc) (words_one l2) (by omega) (by unfold maxLen; omega) hbase ?_
  intro A' c' w' h2 h3 _
  have := h A' c' (l ++ l2) w' rfl (by unfold OW; rw [List.map_append, List.length_append]; exact h2) h3
  rw [List.length_append] at this
  exact this
theorem wpList_makeN_words (w : World) {ops : Array Oper} {rest : List Oper} {o : Oper} {a : Act} {Q : Exit → Act → World → Prop} (hg : o.guard = none) (l c : Operand) (hop : o.op = Op.makeSlice 59 l c)
    (base : Nat) (kl kc : IntKind) (C : Int) (n : Nat) (hl : a.eval l = .int kl C) (hc : a.eval c = .int kc C) (hC : C = (n : Int)) (b2 : n ≤ 35184372088832) (b4 : base ≤ w.heap.size)
    (hK : ∀ w' L, Hid (L = List.replicate n (0 : Int)) → OW w' base (some ⟨w.heap.size, 0, none⟩) n L → w.grownBy w' none → wpList Tryz.prog ops Q rest (a.put o.dst (.slice (some ⟨w.heap.size, 0, none⟩) n n)) w') :
    wpList Tryz.prog ops Q (o :: rest) a w := by
  obtain ⟨i, hi, hz, hs1, hb1⟩ := info_parts Tryz.infoWord
  refine wpList_make_full w hg l c 59 hop base 2 i (.int .i64 0) 1 Tryz.underlying59 hi hz hs1 kl kc C C n hl hc hC hC (by rw [hb1]; omega) (by unfold maxLen; omega) b4 fun w' h1 h2 => hK w' _ rfl ?_ h2
  unfold OW
  have e : (madeCells (Value.int .i64 0).cells (n * 1)).toList = (List.replicate n (0 : Int)).map (Value.int .i64) := by
    rw [Nat.mul_one, List.map_replicate]
    show (madeCells #[.int .i64 0] n).toList = _
    rw [toList_madeCells_one]
  rw [e] at h1
  rw [List.length_replicate]
  exact h1
def RetClone (w : World) (l : List Int) (e : Ending) (w' : World) : Prop := ∃ A c, e = .returned (.slice A l.length c) ∧ OW w' w.heap.size A c l ∧ Below w.heap.size w w'
set_option maxHeartbeats 1000000 in
set_option maxRecDepth 100000 in
theorem clone_calls (w : World) (A : Option Addr) (c : Nat) (l : List Int) (h : RWd w w.heap.size A l) (h8 : l.length ≤ 17592186044415) :
    Calls Tryz.prog 49 #[.slice A l.length c] w (RetClone w l) := by
  cases A with
  | none =>
    have hl : l = [] := by
      apply Classical.byContradiction
      intro hne
      obtain ⟨_, _, h, _⟩ := h hne
      cases h
    subst hl
    clear h8 h
    have hnil := fun (w : World) (a : Option Addr) (n c : Nat) => Lib.run_eql_slice_nil (P := Tryz.prog) w 59 2 a n c 0 0 Tryz.underlying59
    go_enter Tryz.func49, Tryz.ntmps49
    go_wp2
    go_ret
    exact ⟨none, 0, rfl, OW.nil _ _, Below.refl _ _⟩
  | some a =>
  have hW := OW.new w (base := w.heap.size) (Nat.le_refl _) [] (by simp)
  have HW := Lib.hid hW
  have HR := Lib.hid (h.below ((Below.refl _ _).alloc (Nat.le_refl _) (.cells #[] 2)))
  have H8 := Lib.hid h8
  clear hW h h8
  have hnil := fun (w : World) (a : Option Addr) (n c : Nat) => Lib.run_eql_slice_nil (P := Tryz.prog) w 59 2 a n c 0 0 Tryz.underlying59
  go_enter Tryz.func49, Tryz.ntmps49
  go_wp2_with (at_builtin; refine wpList_app_words _ rfl _ _ rfl w.heap.size (some ⟨w.heap.size, 0, none⟩) 0 [] _ rfl rfl HW.out (some a) c l _ rfl rfl HR.out (by have := H8.out; simp; omega) (by simp) ?_)
  intro A' c' L w1 HL ho hg
  have hL : L = l := HL.out
  subst hL
  have HO := Lib.hid ho
  have HG : Hid (Below w.heap.size w w1) := Lib.hid (((Below.refl w.heap.size w).alloc (Nat.le_refl _) _).grown hg (by simp) (fun k e => by simp at e; omega))
  clear HL ho hg
  go_wp2
  go_ret
  exact ⟨A', c', rfl, HO.out, HG.out⟩
end Go.Proofs.YtjfpoahmjgeogaaGreatDoor
/- A machine in memory: 12 cells; trap, word. -/
namespace Go.Proofs.YtjfpoahmjgeogaaGreatDoor
open Go.RowKit Nac Nac.Pvm
def mcs (m : Mach) (A : Option Addr) (c : Nat) : List Value := .int .i64 m.place :: (m.r.map (Value.int .i64) ++ [.slice A m.mem.length c, .int .i64 m.state, .int .i64 m.trap])
section
variable {m : Mach} {A : Option Addr} {c : Nat}
theorem mcs_reg (h : m.r.length = 8) {a : Nat} (ha : a < 8) : (mcs m A c)[1 + a]? = some (.int .i64 (m.reg a)) := by
  unfold mcs Mach.reg
  rw [Nat.add_comm, List.getElem?_cons_succ, List.getElem?_append_left (by simp; omega)]
  simp [h, ha]
theorem mcs_mem (h : m.r.length = 8) : (mcs m A c)[9]? = some (.slice A m.mem.length c) := by
  unfold mcs
  rw [List.getElem?_cons_succ, List.getElem?_append_right (by simp [h])]
  simp [h]
theorem mcs_state (h : m.r.length = 8) : (mcs m A c)[10]? = some (.int .i64 m.state) := by
  unfold mcs
  rw [List.getElem?_cons_succ, List.getElem?_append_right (by simp [h])]
  simp [h]
theorem mcs_trap (h : m.r.length = 8) : (mcs m A c)[11]? = some (.int .i64 m.trap) := by
  unfold mcs
  rw [List.getElem?_cons_succ, List.getElem?_append_right (by simp [h])]
  simp [h]
theorem mcs_setPlace (z : Int) : (mcs m A c).set 0 (.int .i64 z) = mcs { m with place := z } A c := rfl
theorem mcs_setReg (h : m.r.length = 8) {a : Nat} (ha : a < 8) (z : Int) : (mcs m A c).set (1 + a) (.int .i64 z) = mcs { m with r := m.r.set a z } A c := by
  unfold mcs
  rw [Nat.add_comm, List.set_cons_succ, List.set_append_left _ _ (by simp; omega), List.map_set]
theorem mcs_setState (h : m.r.length = 8) (z : Int) : (mcs m A c).set 10 (.int .i64 z) = mcs { m with state := z } A c := by
  unfold mcs
  rw [List.set_cons_succ, List.set_append_right _ _ (by simp [h])]
  simp [h]
theorem mcs_setTrap (h : m.r.length = 8) (z : Int) : (mcs m A c).set 11 (.int .i64 z) = mcs { m with trap := z } A c := by
  unfold mcs
  rw [List.set_cons_succ, List.set_append_right _ _ (by simp [h])]
  simp [h]
end
structure MM (w : World) (b base : Nat) (A : Option Addr) (c : Nat) (m : Mach) : Prop where
  blk : Blk w b (mcs m A c)
  len : m.r.length = 8
  own : OW w base A c m.mem
  ne : A.map (·.block) ≠ some b
structure Fr2 (b : Nat) (A : Option Addr) (w w' : World) : Prop where
  os : w'.os = w.os
  tape : w'.tape = w.tape
  output : w'.output = w.output
  size : w.heap.size ≤ w'.heap.size
  block : ∀ k, k < w.heap.size → k ≠ b → A.map (·.block) ≠ some k → w'.heap[k]? = w.heap[k]?
section
variable {w w1 w2 : World} {b base c : Nat} {A : Option Addr} {m : Mach}
theorem Fr2.refl (b : Nat) (A : Option Addr) (w : World) : Fr2 b A w w := ⟨rfl, rfl, rfl, Nat.le_refl _, fun _ _ _ _ => rfl⟩
theorem Fr2.trans (h : Fr2 b A w w1) (h2 : Fr2 b A w1 w2) : Fr2 b A w w2 :=
  ⟨h2.os.trans h.os, h2.tape.trans h.tape, h2.output.trans h.output, Nat.le_trans h.size h2.size, fun k hk h1 h3 => (h2.block k (Nat.lt_of_lt_of_le hk h.size) h1 h3).trans (h.block k hk h1 h3)⟩
theorem Fr2.grown {row : Option Nat} (h : w.grownBy w1 row) (hr : ∀ k, row = some k → k = b ∨ A.map (·.block) = some k ∨ w.heap.size ≤ k) : Fr2 b A w w1 :=
  ⟨h.os, h.tape, h.output, h.size, fun k hk h1 h2 => h.block k hk fun e => by
    rcases hr k e.symm with h3 | h3 | h3
    · exact h1 h3
    · exact h2 h3
    · omega⟩
theorem Fr2.below (h : Below w.heap.size w w1) : Fr2 b A w w1 := ⟨h.os, h.tape, h.output, h.size, fun k hk _ _ => h.block k hk⟩
theorem MM.below (h : MM w b base A c m) (hb : Below w.heap.size w w1) : MM w1 b base A c m := ⟨h.blk.below hb h.blk.lt, h.len, h.own.below hb (Nat.le_refl _), h.ne⟩
end
theorem MM.drew {w : World} {b base c : Nat} {A : Option Addr} {m : Mach} (h : MM w b base A c m) : MM w.drew b base A c m := ⟨h.blk, h.len, h.own, h.ne⟩
theorem Fr2.drew {w w1 : World} {b : Nat} {A : Option Addr} (h : Fr2 b A w w1) : Fr2 b A w w1.drew := ⟨h.os, h.tape, h.output, h.size, h.block⟩
theorem MM.put {w : World} {b base c : Nat} {A : Option Addr} {m : Mach} (h : MM w b base A c m) (j : Nat) (v : Value) (m' : Mach) (hcs : (mcs m A c).set j v = mcs m' A c) (hl : m'.r.length = 8) (hm : m'.mem = m.mem) : MM (w.setCell ⟨b, j, none⟩ v) b base A c m' :=
  ⟨by rw [← hcs]; exact h.blk.setCell j v, hl, by rw [hm]; exact h.own.kept (grown_setCell w ⟨b, j, none⟩ v) (.inr h.ne), h.ne⟩
theorem fr2_set (w : World) (b j : Nat) (A : Option Addr) (v : Value) : Fr2 b A w (w.setCell ⟨b, j, none⟩ v) := Fr2.grown (grown_setCell w ⟨b, j, none⟩ v) (fun k e => .inl (by injection e with e; exact e.symm))
def RetEv (w : World) (b base : Nat) (A : Option Addr) (c : Nat) (x : Mach × Int × Int) (e : Ending) (w' : World) : Prop :=
  e = .returned (.agg #[.int .i64 x.2.1, .int .i64 x.2.2]) ∧ MM w' b base A c x.1 ∧ Fr2 b A w w'
set_option maxHeartbeats 2000000 in
theorem trap_calls (w : World) (b base : Nat) (A : Option Addr) (c : Nat) (m : Mach) (h : MM w b base A c m) (z : Int) :
    Calls Tryz.prog 70 #[.pointer (some ⟨b, 0, none⟩), .int .i64 z] w (RetEv w b base A c (trapM m z)) := by
  have c10 : w.cell? ⟨b, 10, none⟩ = some (.int .i64 m.state) := h.blk.cell (mcs_state h.len)
  have c11 : w.cell? ⟨b, 11, none⟩ = some (.int .i64 m.trap) := h.blk.cell (mcs_trap h.len)
  have f10 := h.blk.free 10
  have f11 := h.blk.free 11
  have hbl := h.blk.lt
  have HM := Lib.hid h
  clear h
  go_enter Tryz.func70, Tryz.ntmps70
  go_wp2
  have h1 := HM.out.put 10 (.int .i64 2) { m with state := 2 } (mcs_setState HM.out.len 2) HM.out.len rfl
  have h2 := h1.put 11 (.int .i64 z) { m with state := 2, trap := z } (mcs_setTrap h1.len z) HM.out.len rfl
  have hf := (fr2_set w b 10 A (.int .i64 2)).trans (fr2_set _ b 11 A (.int .i64 z))
  obtain ⟨w2, hw2⟩ : ∃ w2, w2 = (w.setCell ⟨b, 10, none⟩ (.int .i64 2)).setCell ⟨b, 11, none⟩ (.int .i64 z) := ⟨_, rfl⟩
  have hs : w.heap.size = w2.heap.size := by rw [hw2]; simp
  rw [← hw2] at h2 hf ⊢
  rw [hs]
  have ha : Below w2.heap.size w2 (w2.alloc (.cells #[.int .i64 3, .int .i64 z] 63)) := (Below.refl _ _).alloc (Nat.le_refl _) _
  exact bodyPost_ret (v := .agg #[.int .i64 3, .int .i64 z]) (by simp [results, Tryz.results70, go_sem]) rfl ⟨rfl, h2.below ha, hf.trans (Fr2.below ha)⟩
theorem Fr2.drewN {w w1 : World} {b : Nat} {A : Option Addr} (h : Fr2 b A w w1) (n : Nat) : Fr2 b A w (w1.drewN n) := ⟨h.os, h.tape, h.output, h.size, h.block⟩
theorem below_drewN' {B : Nat} {a w : World} (h : Below B a w) (n : Nat) : Below B a (w.drewN n) := ⟨h.os, h.tape, h.output, h.size, h.block⟩
set_option maxHeartbeats 2000000 in
theorem word_calls (w : World) (b base : Nat) (A : Option Addr) (c : Nat) (m : Mach) (h : MM w b base A c m) (i : Ins) (hb8 : i.b < 8) (hc : i.c < 256) (_hm8 : m.mem.length ≤ 140737488351232) :
    Calls Tryz.prog 72 #[.pointer (some ⟨b, 0, none⟩), .agg #[.int .u8 i.op, .int .u8 i.a, .int .u8 i.b, .int .u8 i.c]] w (RetI w (wordAt m i)) := by
  have cr : w.cell? ⟨b, 1 + i.b, none⟩ = some (.int .i64 (m.reg i.b)) := h.blk.cell (mcs_reg h.len hb8)
  have c9 : w.cell? ⟨b, 9, none⟩ = some (.slice A m.mem.length c) := h.blk.cell (mcs_mem h.len)
  have hbl := h.blk.lt
  have HM := Lib.hid h
  obtain ⟨x, hx⟩ : ∃ x, x = wrap64 (m.reg i.b + i.c) := ⟨_, rfl⟩
  have hw : wordAt m i = if x < 0 ∨ (m.mem.length : Int) ≤ x then -1 else x := by unfold wordAt; rw [hx]
  have HW := Lib.hid hw
  have hx' : wrap64 (m.reg i.b + i.c) = x := hx.symm
  obtain ⟨rb, hrb⟩ : ∃ rb, rb = m.reg i.b := ⟨_, rfl⟩
  rw [← hrb] at hx' cr
  have HX := Lib.hid hx'
  clear h hw hx hx' hrb
  obtain ⟨op, a, b', c'⟩ := i
  simp only at *
  go_enter Tryz.func72, Tryz.ntmps72
  go_wp2
  go_quiet (fail)
  rw [HX.out]
  rcases (by omega : x < 0 ∨ (0 ≤ x ∧ (m.mem.length : Int) ≤ x) ∨ (0 ≤ x ∧ x < (m.mem.length : Int))) with hx | ⟨hx, hx2⟩ | ⟨hx, hx2⟩
  all_goals
    go_wp2
    go_ret
    refine retI ?_ (below_drewN' ((Below.refl _ _).alloc (Nat.le_refl _) _) _)
    rw [HW.out]
    first
      | rw [if_pos (by omega)]
      | rw [if_neg (by omega)]
end Go.Proofs.YtjfpoahmjgeogaaGreatDoor
/- A region that draws its order, of operations that only let memory grow (XMono): what it leaves, slot by slot. Over whatever program. -/
namespace Nac
open Go Go.RowKit
section
variable {P : Program} {ops : Array Oper} {Q : Exit → Act → World → Prop} {D : Nat → VD} {a0 : Act} {W0 : World}
theorem MCtx.slot {i : Nat} {a : Act} {w : World} (c : MCtx ops D a0 W0 i a w) (k x : Nat) (hk : (preds ops 3 i).contains k = true) (hx : dstOf ops k = some x) : (D k).ok (a.tmps.getD x undef) w :=
  c.pred k x (by simpa using hk) hx
def slotsOf (t : Array Value) (ds : List (Option Tmp)) : List Value := ds.map fun d => match d with | none => undef | some d => t.getD d undef
theorem region_monos {id : Nat} {a0 : Act} {w0 : World} (D : Nat → VD) (ds : List (Option Tmp)) (hm : P.follows .mixedOrders = true) (hd : distinctB ops a0.tmps.size = true) (hbk : backB ops = true)
    (hds : ops.toList.map (·.dst) = ds)
    (step : ∀ i, i < ops.size → MStep P ops Q D a0 w0.drew i)
    (fin : ∀ V w, V.length = ds.length → Below w0.heap.size w0 w → (∀ i d, ds[i]? = some (some d) → (D i).ok (V.getD i undef) w) → Q .normal (putsL (ds.zip V) a0) w) :
    (Code.region id ops true).wp P Q a0 w0 := by
  refine region_mono D hm hd hbk step fun a w hb hde hts hs hr => ?_
  have hdi : ∀ i d, ds[i]? = some (some d) → dstOf ops i = some d := by
    intro i d h
    rw [← hds, List.getElem?_map, Array.getElem?_toList] at h
    unfold dstOf
    cases ho : ops[i]? with
    | none => rw [ho] at h; cases h
    | some o => rw [ho] at h; simpa using h
  have hdi' : ∀ i d, dstOf ops i = some d → ds[i]? = some (some d) := by
    intro i d h
    rw [← hds, List.getElem?_map, Array.getElem?_toList]
    unfold dstOf at h
    cases ho : ops[i]? with
    | none => rw [ho] at h; cases h
    | some o => rw [ho] at h; simpa using h
  have e := putsL_eq (a0 := a0) (a := a) (l := ds.zip (slotsOf a.tmps ds)) hde hts ?_ ?_
  · rw [e]
    refine fin _ w (by simp [slotsOf]) hb fun i d h => ?_
    have := hs i d (hdi i d h)
    have e2 : (slotsOf a.tmps ds).getD i undef = a.tmps.getD d undef := by
      unfold slotsOf
      rw [List.getD_eq_getElem?_getD, List.getElem?_map, h]
      rfl
    rw [e2]
    exact this
  · intro x hx t ht
    obtain ⟨i, hi⟩ := List.mem_iff_getElem?.1 hx
    obtain ⟨h1, h2⟩ := List.getElem?_zip_eq_some.1 hi
    unfold slotsOf at h2
    rw [List.getElem?_map, h1] at h2
    obtain ⟨d, v⟩ := x
    simp only at ht h1 h2
    subst ht
    simpa using h2
  · intro t ht
    refine hr t fun i hdt => ?_
    have h1 := hdi' i t hdt
    have h3 : (slotsOf a.tmps ds)[i]? = some (a.tmps.getD t undef) := by
      unfold slotsOf
      rw [List.getElem?_map, h1]
      rfl
    exact ht (some t, a.tmps.getD t undef) (List.mem_iff_getElem?.2 ⟨i, List.getElem?_zip_eq_some.2 ⟨h1, h3⟩⟩) rfl
end
/- As XTail, where the first operations only let memory grow, and a slot's value may be known by what it reads as. Over whatever program. -/
section
variable {P : Program} {ops : Array Oper} {Q : Exit → Act → World → Prop} {D : Nat → VD} {a0 : Act} {W0 : World}
theorem mono_tail {p : Nat} (hch : chainB ops p = true) (hd : distinctB ops a0.tmps.size = true) (hbk : backB ops = true)
    (step : ∀ i, i < p → MStep P ops Q D a0 W0 i)
    (fin : ∀ a w, Below W0.heap.size W0 w → a.defers = a0.defers → a.tmps.size = a0.tmps.size → (∀ i d, i < p → dstOf ops i = some d → (D i).ok (a.tmps.getD d undef) w) → (∀ t, (∀ i, i < p → dstOf ops i ≠ some t) → a.tmps.getD t undef = a0.tmps.getD t undef) → wpList P ops Q (ops.toList.drop p) a w) :
    ∀ (fuel : Nat) (listed : Array Bool) (a : Act) (w : World), falses listed ≤ fuel → (∀ j, p ≤ j → listed.getD j false = false) → MInv ops D a0 W0 listed a w → wpAny P .any ops Q fuel listed a w := by
  have hps : p ≤ ops.size := by
    unfold chainB at hch
    rw [Bool.and_eq_true] at hch
    simpa using hch.1
  have hall : ∀ (fuel : Nat) (listed : Array Bool) (a : Act) (w : World), falses listed ≤ fuel → (∀ j, p ≤ j → listed.getD j false = false) → MInv ops D a0 W0 listed a w → (∀ j, j < p → listed.getD j false = true) → wpAny P .any ops Q fuel listed a w := by
    intro fuel listed a w hf hz hI hl
    refine tail_any hch hbk fuel listed a w p (Nat.le_refl _) hps hI.size hf hl hz hI.closed ?_
    refine fin a w hI.below hI.defers hI.tsize (fun i d hi h => hI.done i d (hl i hi) h) (fun t ht => hI.rest t fun i hli => ht i ?_)
    rcases Nat.lt_or_ge i p with h | h
    · exact h
    · rw [hz i h] at hli; cases hli
  intro fuel
  induction fuel with
  | zero =>
    intro listed a w hf hz hI
    exact hall 0 listed a w hf hz hI fun i hi => falses_zero listed (by omega) i (by rw [hI.size]; omega)
  | succ fuel ih =>
  intro listed a w hf hz hI
  by_cases hdone : ∀ j, j < p → listed.getD j false = true
  · exact hall _ listed a w hf hz hI hdone
  have hnd : ∃ j, j < p ∧ listed.getD j false = false := by
    apply Classical.byContradiction
    intro h
    refine hdone fun j hj => ?_
    cases hb : listed.getD j false
    · exact absurd ⟨j, hj, hb⟩ h
    · rfl
  obtain ⟨j0, hj0, hl0⟩ := hnd
  refine ⟨fun hr => absurd hr (ready_ex hbk hI.size j0 (by omega) hl0), fun i hi => ?_⟩
  obtain ⟨h1, h2, o, ho, hready⟩ := ready_of hi hI.size
  have hip : i < p := by
    rcases Nat.lt_or_ge i p with h | h
    · exact h
    · have := chain_listed hch hI.closed h1 h (fun o' ho' => by rw [ho] at ho'; obtain rfl := Option.some.inj ho'; exact hready) j0 (by omega)
      rw [hl0] at this
      cases this
  have hctx : MCtx ops D a0 W0 i a w := by
    have hpc := preds_closed hI.closed 3 i (fun o' ho' => by rw [ho] at ho'; obtain rfl := Option.some.inj ho'; exact hready)
    refine ⟨hI.below, hI.tsize, fun k d hk hkd => hI.done k d (hpc k hk) hkd, fun t ht => hI.rest t fun k hl hkd => ?_⟩
    unfold origB at ht
    rw [List.all_eq_true] at ht
    have hk : k < ops.size := by
      rcases Nat.lt_or_ge k ops.size with h | h
      · exact h
      · simp [dstOf, Array.getElem?_eq_none h] at hkd
    have h3 := ht k (by simpa using hk)
    rw [hkd] at h3
    simp only [bne_self_eq_false, Bool.false_or, List.contains_iff_mem] at h3
    have := preds_closed hI.closed 3 k (fun o' ho' e he hb' => hI.closed k o' ho' hl e he hb') i h3
    rw [h2] at this
    cases this
  have hs := step i hip o ho a w hctx
  have hfl : falses (listed.setIfInBounds i true) ≤ fuel := by
    have := falses_set listed i (by rw [hI.size]; exact h1) h2
    omega
  have hz' : ∀ j, p ≤ j → (listed.setIfInBounds i true).getD j false = false := fun j hj => by
    rw [getD_setIf _ _ _ (by rw [hI.size]; exact h1), if_neg (by omega)]
    exact hz j hj
  unfold wpOp
  rw [ho]
  simp only
  split
  · rename_i hw
    rw [if_pos hw] at hs
    refine Or.inl (Oper.wp_mono ?_ hs)
    rintro a' w' ⟨v, rfl, hv, hb⟩
    exact ih _ _ _ hfl hz' (mono_put hI h1 ho hd hready hv hb)
  · rename_i hw
    rw [if_neg hw] at hs
    exact ih _ _ _ hfl hz' (mono_put hI h1 ho hd hready hs (Below.refl _ _))
theorem region_tails {id : Nat} {a0 : Act} {w0 : World} (p : Nat) (D : Nat → VD) (ds : List (Option Tmp)) (hm : P.follows .mixedOrders = true) (hd : distinctB ops a0.tmps.size = true) (hbk : backB ops = true)
    (hch : chainB ops p = true) (hds : (ops.toList.take p).map (·.dst) = ds)
    (step : ∀ i, i < p → MStep P ops Q D a0 w0.drew i)
    (fin : ∀ V w, V.length = ds.length → Below w0.heap.size w0 w → (∀ i d, ds[i]? = some (some d) → (D i).ok (V.getD i undef) w) → wpList P ops Q (ops.toList.drop p) (putsL (ds.zip V) a0) w) :
    (Code.region id ops true).wp P Q a0 w0 := by
  refine wp_region_any hm ?_
  have hps : p ≤ ops.size := by
    unfold chainB at hch
    rw [Bool.and_eq_true] at hch
    simpa using hch.1
  have hg : ∀ i, (Array.replicate ops.size false).getD i false = false := by
    intro i
    rw [Array.getD_eq_getD_getElem?, Array.getElem?_replicate]
    split <;> rfl
  refine mono_tail (D := D) (a0 := a0) (W0 := w0.drew) hch hd hbk step (fun a w hb' hde hts hs hr => ?_) _ _ _ _ ?_ (fun j _ => hg j) ⟨by simp, Below.refl _ _, rfl, rfl, fun i o _ h => (by rw [hg] at h; cases h), fun i d h => (by rw [hg] at h; cases h), fun _ _ => rfl⟩
  · have hb : Below w0.heap.size w0 w := ⟨hb'.os, hb'.tape, hb'.output, hb'.size, hb'.block⟩
    have hlt : ∀ i x, ds[i]? = some x → i < p := by
      intro i x h
      have := (List.getElem?_eq_some_iff.1 h).1
      rw [← hds] at this
      simp at this
      omega
    have hdi : ∀ i d, ds[i]? = some (some d) → dstOf ops i = some d := by
      intro i d h
      have hi := hlt i _ h
      rw [← hds, List.getElem?_map, List.getElem?_take_of_lt hi, Array.getElem?_toList] at h
      unfold dstOf
      cases ho : ops[i]? with
      | none => rw [ho] at h; cases h
      | some o => rw [ho] at h; simpa using h
    have hdi' : ∀ i d, i < p → dstOf ops i = some d → ds[i]? = some (some d) := by
      intro i d hi h
      rw [← hds, List.getElem?_map, List.getElem?_take_of_lt hi, Array.getElem?_toList]
      unfold dstOf at h
      cases ho : ops[i]? with
      | none => rw [ho] at h; cases h
      | some o => rw [ho] at h; simpa using h
    have e := putsL_eq (a0 := a0) (a := a) (l := ds.zip (slotsOf a.tmps ds)) hde hts ?_ ?_
    · rw [e]
      refine fin _ w (by simp [slotsOf]) hb fun i d h => ?_
      have := hs i d (hlt i _ h) (hdi i d h)
      have e2 : (slotsOf a.tmps ds).getD i undef = a.tmps.getD d undef := by
        unfold slotsOf
        rw [List.getD_eq_getElem?_getD, List.getElem?_map, h]
        rfl
      rw [e2]
      exact this
    · intro x hx t ht
      obtain ⟨i, hi⟩ := List.mem_iff_getElem?.1 hx
      obtain ⟨h1, h2⟩ := List.getElem?_zip_eq_some.1 hi
      unfold slotsOf at h2
      rw [List.getElem?_map, h1] at h2
      obtain ⟨d, v⟩ := x
      simp only at ht h1 h2
      subst ht
      simpa using h2
    · intro t ht
      refine hr t fun i hip hdt => ?_
      have h1 := hdi' i t hip hdt
      have h3 : (slotsOf a.tmps ds)[i]? = some (a.tmps.getD t undef) := by
        unfold slotsOf
        rw [List.getElem?_map, h1]
        rfl
      exact ht (some t, a.tmps.getD t undef) (List.mem_iff_getElem?.2 ⟨i, List.getElem?_zip_eq_some.2 ⟨h1, h3⟩⟩) rfl
  · unfold falses
    simp
end
end Nac
/- pvm: plain. -/
namespace Go.Proofs.YtjfpoahmjgeogaaGreatDoor
open Go.RowKit Nac Nac.Pvm
def RetPlain (w : World) (b base : Nat) (A : Option Addr) (c : Nat) (m : Mach) (e : Ending) (w' : World) : Prop := e = .returned (.tuple #[]) ∧ MM w' b base A c m ∧ Fr2 b A w w'
theorem MM.drewN {w : World} {b base c : Nat} {A : Option Addr} {m : Mach} (h : MM w b base A c m) (n : Nat) : MM (w.drewN n) b base A c m := ⟨h.blk, h.len, h.own, h.ne⟩
set_option maxHeartbeats 4000000 in
set_option maxRecDepth 100000 in
theorem plain_calls (w : World) (b base : Nat) (A : Option Addr) (c : Nat) (m : Mach) (h : MM w b base A c m) (i : Ins) (hi : i.fits) (hwf : wf i = true) (hne : i.op ≠ 0 ∧ i.op ≠ 17 ∧ i.op ≠ 13 ∧ i.op ≠ 14) (hz : (i.op = 6 ∨ i.op = 7) → m.reg i.c ≠ 0) :
    Calls Tryz.prog 73 #[.pointer (some ⟨b, 0, none⟩), .agg #[.int .u8 i.op, .int .u8 i.a, .int .u8 i.b, .int .u8 i.c]] w (RetPlain w b base A c (plainM m i)) := by
  have HI := Lib.hid hi
  have hops : i.op = 1 ∨ i.op = 2 ∨ i.op = 16 ∨ i.op = 15 ∨ (3 ≤ i.op ∧ i.op ≤ 12) := by
    apply Classical.byContradiction
    intro hn
    rcases (by omega : i.op = 0 ∨ i.op = 13 ∨ i.op = 14 ∨ i.op = 17 ∨ 17 < i.op) with h | h | h | h | h
    · exact hne.1 h
    · exact hne.2.2.1 h
    · exact hne.2.2.2 h
    · exact hne.2.1 h
    · rw [wf_big i h] at hwf; cases hwf
  have ha : i.op ≠ 15 → i.a < 8 := fun h15 => by
    unfold wf at hwf
    rcases hops with h | h | h | h | h
    all_goals (repeat (first | rw [if_neg (by omega)] at hwf | rw [if_pos (by omega)] at hwf)); simp at hwf; try omega
  have hb : (i.op = 2 ∨ (3 ≤ i.op ∧ i.op ≤ 12)) → i.b < 8 := fun h2 => by
    unfold wf at hwf
    rcases h2 with h | h
    all_goals (repeat (first | rw [if_neg (by omega)] at hwf | rw [if_pos (by omega)] at hwf)); simp at hwf; try omega
  have hc : (3 ≤ i.op ∧ i.op ≤ 12) → i.c < 8 := fun h => by
    unfold wf at hwf
    rw [if_neg (by omega), if_neg (by omega), if_neg (by omega), if_neg (by omega), if_pos (by omega)] at hwf
    simp at hwf
    omega
  have HM := Lib.hid h
  obtain ⟨op, a, b9, c9⟩ := i
  simp only at ha hb hc hops hz ⊢
  have hbl := h.blk.lt
  have hbx : Box (w.alloc (.cells #[.int .u8 op, .int .u8 a, .int .u8 b9, .int .u8 c9] 94)) w.heap.size [.int .u8 op, .int .u8 a, .int .u8 b9, .int .u8 c9] := Box.new w _ _
  have HM1 : Hid (MM (w.alloc (.cells #[.int .u8 op, .int .u8 a, .int .u8 b9, .int .u8 c9] 94)) b base A c m) := Lib.hid (h.below ((Below.refl _ _).alloc (Nat.le_refl _) _))
  have HF1 : Hid (Fr2 b A w (w.alloc (.cells #[.int .u8 op, .int .u8 a, .int .u8 b9, .int .u8 c9] 94))) := Lib.hid (Fr2.below ((Below.refl _ _).alloc (Nat.le_refl _) _))
  have HBX := Lib.hid hbx
  have hz1 : (w.alloc (.cells #[.int .u8 op, .int .u8 a, .int .u8 b9, .int .u8 c9] 94)).heap.size = w.heap.size + 1 := by simp
  have XB : Hid (∀ w', Below (w.alloc (.cells #[.int .u8 op, .int .u8 a, .int .u8 b9, .int .u8 c9] 94)).drew.heap.size (w.alloc (.cells #[.int .u8 op, .int .u8 a, .int .u8 b9, .int .u8 c9] 94)).drew w' → w'.cell? ⟨w.heap.size, 0, none⟩ = some (.int .u8 op) ∧ w'.cell? ⟨w.heap.size, 1, none⟩ = some (.int .u8 a) ∧ w'.cell? ⟨w.heap.size, 2, none⟩ = some (.int .u8 b9) ∧ w'.cell? ⟨w.heap.size, 3, none⟩ = some (.int .u8 c9)) := Lib.hid fun w' hb' => by
    have hx := Box.below (w := (w.alloc (.cells #[.int .u8 op, .int .u8 a, .int .u8 b9, .int .u8 c9] 94)).drew) hbx hb' hbx.lt
    exact ⟨hx.cell rfl, hx.cell rfl, hx.cell rfl, hx.cell rfl⟩
  have MB : Hid (∀ w', Below (w.alloc (.cells #[.int .u8 op, .int .u8 a, .int .u8 b9, .int .u8 c9] 94)).drew.heap.size (w.alloc (.cells #[.int .u8 op, .int .u8 a, .int .u8 b9, .int .u8 c9] 94)).drew w' → MM w' b base A c m) := Lib.hid fun w' hb' => HM1.out.drew.below hb'
  clear hbx hz1 h hi hwf hne
  rcases hops with rfl | rfl | rfl | rfl | ho
  · -- Set
    have QA : Hid (a < 8) := Lib.hid (ha (by omega))
    obtain ⟨z, hz9⟩ : ∃ z, z = num ⟨1, a, b9, c9⟩ := ⟨_, rfl⟩
    have HZ := Lib.hid hz9
    have NM : Hid (∀ w', Below (w.alloc (.cells #[.int .u8 (1 : Nat), .int .u8 a, .int .u8 b9, .int .u8 c9] 94)).drew.heap.size (w.alloc (.cells #[.int .u8 (1 : Nat), .int .u8 a, .int .u8 b9, .int .u8 c9] 94)).drew w' → Calls Tryz.prog 33 #[.agg #[.int .u8 (1 : Nat), .int .u8 a, .int .u8 b9, .int .u8 c9]] w' fun e w'' => ∃ v, e = .returned v ∧ v = .int .i64 z ∧ Below w'.heap.size w' w'') := Lib.hid fun w' _ => by
      refine (number_calls' w' ⟨1, a, b9, c9⟩ HI.out).mono ?_
      rintro e w'' ⟨rfl, hq⟩
      exact ⟨_, rfl, by rw [hz9], hq⟩
    have HPL : Hid (plainM m ⟨1, a, b9, c9⟩ = { m with r := m.r.set a z }) := Lib.hid (by rw [hz9]; simp [plainM])
    clear ha hb hc hz hz9
    go_enter Tryz.func73, Tryz.ntmps73
    go_wp2_with fail
    refine region_tails 8 (fun ix9 => ([.is (.pointer (some ⟨b, 0, none⟩)), .is (.pointer (some ⟨w.heap.size, 1, none⟩)), .is (.int .u8 a), .is (.agg #[.int .u8 (1 : Nat), .int .u8 a, .int .u8 b9, .int .u8 c9]), .is (.int .i64 z), .is (.pointer (some ⟨b, 0, none⟩)), .is (.pointer (some ⟨b, 1, none⟩)), .is (.pointer (some ⟨b, 1 + a, none⟩))] : List VD).getD ix9 (.is undef)) [some 14, some 15, some 16, some 17, some 18, some 19, some 20, some 21] (by kernel_rfl) (by kernel_rfl) (by kernel_rfl) (by kernel_rfl) rfl (fun ii hii => ?_) ?_
    · match ii, hii with
      | 0, _ => exact mstep_first rfl (mwant_none rfl) 0 (Or.inl rfl) (by kernel_rfl) (fun _ _ => rfl)
      | 1, _ => exact mstep_pure rfl (mwant_none rfl) (fun aa ww cc => ⟨.pointer (some ⟨w.heap.size, 1, none⟩), by have e0 : aa.tmps.getD 3 undef = .pointer (some ⟨w.heap.size, 0, none⟩) := (cc.orig 3 (by kernel_rfl)).trans rfl; simp only [execOp, Act.eval]; go_simp, rfl⟩)
      | 2, _ => exact mstep_pure rfl (mwant_none rfl) (fun aa ww cc => ⟨.int .u8 a, by have e0 : aa.tmps.getD 15 undef = .pointer (some ⟨w.heap.size, 1, none⟩) := cc.slot 1 15 (by kernel_rfl) rfl; obtain ⟨x0, x1, x2, x3⟩ := XB.out _ cc.below; simp only [execOp, Act.eval]; go_simp, rfl⟩)
      | 3, _ => exact mstep_pure rfl (mwant_none rfl) (fun aa ww cc => ⟨.agg #[.int .u8 (1 : Nat), .int .u8 a, .int .u8 b9, .int .u8 c9], by have e0 : aa.tmps.getD 3 undef = .pointer (some ⟨w.heap.size, 0, none⟩) := (cc.orig 3 (by kernel_rfl)).trans rfl; obtain ⟨x0, x1, x2, x3⟩ := XB.out _ cc.below; simp only [execOp, Act.eval]; go_simp, rfl⟩)
      | 4, _ => exact mstep_call rfl (mwant_none rfl) _ _ _ rfl (enters_of Tryz.func33 (by kernel_rfl) rfl) (fun aa ww cc => by have e0 : aa.tmps.getD 17 undef = .agg #[.int .u8 (1 : Nat), .int .u8 a, .int .u8 b9, .int .u8 c9] := cc.slot 3 17 (by kernel_rfl) rfl; simp only [List.map_toArray, List.map_cons, List.map_nil, Act.eval, e0]; exact (NM.out) ww cc.below)
      | 5, _ => exact mstep_pure rfl (mwant_none rfl) (fun aa ww cc => ⟨.pointer (some ⟨b, 0, none⟩), by have e0 : aa.tmps.getD 14 undef = .pointer (some ⟨b, 0, none⟩) := cc.slot 0 14 (by kernel_rfl) rfl; simp only [execOp, Act.eval]; go_simp, rfl⟩)
      | 6, _ => exact mstep_pure rfl (mwant_none rfl) (fun aa ww cc => ⟨.pointer (some ⟨b, 1, none⟩), by have e0 : aa.tmps.getD 19 undef = .pointer (some ⟨b, 0, none⟩) := cc.slot 5 19 (by kernel_rfl) rfl; simp only [execOp, Act.eval]; go_simp, rfl⟩)
      | 7, _ => exact mstep_pure rfl (mwant_none rfl) (fun aa ww cc => ⟨.pointer (some ⟨b, 1 + a, none⟩), by have e0 : aa.tmps.getD 20 undef = .pointer (some ⟨b, 1, none⟩) := cc.slot 6 20 (by kernel_rfl) rfl; have e1 : aa.tmps.getD 16 undef = .int .u8 a := cc.slot 2 16 (by kernel_rfl) rfl; have q := QA.out; have q2 : (a : Int) < 8 := (by omega); simp only [execOp, Act.eval]; go_simp, rfl⟩)
      | n + 8, h => exact absurd h (by show ¬ (n + 8 < 8); omega)
    · intro VV w5 hlen hb5 hok
      match VV, hlen with
      | [v0, v1, v2, v3, v4, v5, v6, v7], _ =>
        obtain rfl : v0 = .pointer (some ⟨b, 0, none⟩) := hok 0 14 rfl
        obtain rfl : v1 = .pointer (some ⟨w.heap.size, 1, none⟩) := hok 1 15 rfl
        obtain rfl : v2 = .int .u8 a := hok 2 16 rfl
        obtain rfl : v3 = .agg #[.int .u8 (1 : Nat), .int .u8 a, .int .u8 b9, .int .u8 c9] := hok 3 17 rfl
        obtain rfl : v4 = .int .i64 z := hok 4 18 rfl
        obtain rfl : v5 = .pointer (some ⟨b, 0, none⟩) := hok 5 19 rfl
        obtain rfl : v6 = .pointer (some ⟨b, 1, none⟩) := hok 6 20 rfl
        obtain rfl : v7 = .pointer (some ⟨b, 1 + a, none⟩) := hok 7 21 rfl
        have HM5 := Lib.hid (HM1.out.below hb5)
        have HF5 : Hid (Fr2 b A w w5) := Lib.hid (HF1.out.trans (Fr2.below hb5))
        clear hok hb5 hlen XB MB HM1 HF1 HBX NM
        simp only [List.zip_cons_cons, List.zip_nil_right, putsL]
        go_simp
        have cR := HM5.out.blk.cell (mcs_reg HM5.out.len QA.out)
        have fR := HM5.out.blk.free (1 + a)
        have HP := Lib.hid (HM5.out.put (1 + a) (.int .i64 z) { m with r := m.r.set a z } (mcs_setReg HM5.out.len QA.out z) (by rw [List.length_set]; exact HM5.out.len) rfl)
        have HFF := Lib.hid (HF5.out.trans (fr2_set w5 b (1 + a) A (.int .i64 z)))
        obtain ⟨old, hold⟩ : ∃ old, w5.cell? ⟨b, 1 + a, none⟩ = some (.int .i64 old) := ⟨_, cR⟩
        clear cR
        go_wp2
        go_end0
        rw [HPL.out]
        exact ⟨rfl, HP.out, HFF.out⟩
  · -- Move
    have QA : Hid (a < 8) := Lib.hid (ha (by omega))
    have QB : Hid (b9 < 8) := Lib.hid (hb (by omega))
    obtain ⟨rb, hrb⟩ : ∃ rb, rb = m.reg b9 := ⟨_, rfl⟩
    have RB9 : Hid (∀ w', Below (w.alloc (.cells #[.int .u8 (2 : Nat), .int .u8 a, .int .u8 b9, .int .u8 c9] 94)).drew.heap.size (w.alloc (.cells #[.int .u8 (2 : Nat), .int .u8 a, .int .u8 b9, .int .u8 c9] 94)).drew w' → w'.cell? ⟨b, 1 + b9, none⟩ = some (.int .i64 rb)) := Lib.hid fun w' hb' => by
      have hm := MB.out w' hb'
      rw [hrb]
      exact hm.blk.cell (mcs_reg hm.len QB.out)
    have HPL : Hid (plainM m ⟨2, a, b9, c9⟩ = { m with r := m.r.set a rb }) := Lib.hid (by rw [hrb]; simp [plainM])
    clear ha hb hc hz hrb
    go_enter Tryz.func73, Tryz.ntmps73
    go_wp2_with fail
    refine region_tails 13 (fun ix9 => ([.is (.pointer (some ⟨b, 0, none⟩)), .is (.pointer (some ⟨w.heap.size, 1, none⟩)), .is (.int .u8 a), .is (.pointer (some ⟨b, 0, none⟩)), .is (.pointer (some ⟨w.heap.size, 2, none⟩)), .is (.int .u8 b9), .is (.pointer (some ⟨b, 0, none⟩)), .is (.pointer (some ⟨b, 1, none⟩)), .is (.pointer (some ⟨b, 1 + b9, none⟩)), .is (.int .i64 rb), .is (.pointer (some ⟨b, 0, none⟩)), .is (.pointer (some ⟨b, 1, none⟩)), .is (.pointer (some ⟨b, 1 + a, none⟩))] : List VD).getD ix9 (.is undef)) [some 22, some 23, some 24, some 25, some 26, some 27, some 28, some 29, some 30, some 31, some 32, some 33, some 34] (by kernel_rfl) (by kernel_rfl) (by kernel_rfl) (by kernel_rfl) rfl (fun ii hii => ?_) ?_
    · match ii, hii with
      | 0, _ => exact mstep_first rfl (mwant_none rfl) 0 (Or.inl rfl) (by kernel_rfl) (fun _ _ => rfl)
      | 1, _ => exact mstep_pure rfl (mwant_none rfl) (fun aa ww cc => ⟨.pointer (some ⟨w.heap.size, 1, none⟩), by have e0 : aa.tmps.getD 3 undef = .pointer (some ⟨w.heap.size, 0, none⟩) := (cc.orig 3 (by kernel_rfl)).trans rfl; simp only [execOp, Act.eval]; go_simp, rfl⟩)
      | 2, _ => exact mstep_pure rfl (mwant_none rfl) (fun aa ww cc => ⟨.int .u8 a, by have e0 : aa.tmps.getD 23 undef = .pointer (some ⟨w.heap.size, 1, none⟩) := cc.slot 1 23 (by kernel_rfl) rfl; obtain ⟨x0, x1, x2, x3⟩ := XB.out _ cc.below; simp only [execOp, Act.eval]; go_simp, rfl⟩)
      | 3, _ => exact mstep_first rfl (mwant_none rfl) 0 (Or.inl rfl) (by kernel_rfl) (fun _ _ => rfl)
      | 4, _ => exact mstep_pure rfl (mwant_none rfl) (fun aa ww cc => ⟨.pointer (some ⟨w.heap.size, 2, none⟩), by have e0 : aa.tmps.getD 3 undef = .pointer (some ⟨w.heap.size, 0, none⟩) := (cc.orig 3 (by kernel_rfl)).trans rfl; simp only [execOp, Act.eval]; go_simp, rfl⟩)
      | 5, _ => exact mstep_pure rfl (mwant_none rfl) (fun aa ww cc => ⟨.int .u8 b9, by have e0 : aa.tmps.getD 26 undef = .pointer (some ⟨w.heap.size, 2, none⟩) := cc.slot 4 26 (by kernel_rfl) rfl; obtain ⟨x0, x1, x2, x3⟩ := XB.out _ cc.below; simp only [execOp, Act.eval]; go_simp, rfl⟩)
      | 6, _ => exact mstep_pure rfl (mwant_none rfl) (fun aa ww cc => ⟨.pointer (some ⟨b, 0, none⟩), by have e0 : aa.tmps.getD 25 undef = .pointer (some ⟨b, 0, none⟩) := cc.slot 3 25 (by kernel_rfl) rfl; simp only [execOp, Act.eval]; go_simp, rfl⟩)
      | 7, _ => exact mstep_pure rfl (mwant_none rfl) (fun aa ww cc => ⟨.pointer (some ⟨b, 1, none⟩), by have e0 : aa.tmps.getD 28 undef = .pointer (some ⟨b, 0, none⟩) := cc.slot 6 28 (by kernel_rfl) rfl; simp only [execOp, Act.eval]; go_simp, rfl⟩)
      | 8, _ => exact mstep_pure rfl (mwant_none rfl) (fun aa ww cc => ⟨.pointer (some ⟨b, 1 + b9, none⟩), by have e0 : aa.tmps.getD 29 undef = .pointer (some ⟨b, 1, none⟩) := cc.slot 7 29 (by kernel_rfl) rfl; have e1 : aa.tmps.getD 27 undef = .int .u8 b9 := cc.slot 5 27 (by kernel_rfl) rfl; have q := QB.out; have q2 : (b9 : Int) < 8 := (by omega); simp only [execOp, Act.eval]; go_simp, rfl⟩)
      | 9, _ => exact mstep_pure rfl (mwant_none rfl) (fun aa ww cc => ⟨.int .i64 rb, by have e0 : aa.tmps.getD 30 undef = .pointer (some ⟨b, 1 + b9, none⟩) := cc.slot 8 30 (by kernel_rfl) rfl; have q := RB9.out _ cc.below; simp only [execOp, Act.eval]; go_simp, rfl⟩)
      | 10, _ => exact mstep_pure rfl (mwant_none rfl) (fun aa ww cc => ⟨.pointer (some ⟨b, 0, none⟩), by have e0 : aa.tmps.getD 22 undef = .pointer (some ⟨b, 0, none⟩) := cc.slot 0 22 (by kernel_rfl) rfl; simp only [execOp, Act.eval]; go_simp, rfl⟩)
      | 11, _ => exact mstep_pure rfl (mwant_none rfl) (fun aa ww cc => ⟨.pointer (some ⟨b, 1, none⟩), by have e0 : aa.tmps.getD 32 undef = .pointer (some ⟨b, 0, none⟩) := cc.slot 10 32 (by kernel_rfl) rfl; simp only [execOp, Act.eval]; go_simp, rfl⟩)
      | 12, _ => exact mstep_pure rfl (mwant_none rfl) (fun aa ww cc => ⟨.pointer (some ⟨b, 1 + a, none⟩), by have e0 : aa.tmps.getD 33 undef = .pointer (some ⟨b, 1, none⟩) := cc.slot 11 33 (by kernel_rfl) rfl; have e1 : aa.tmps.getD 24 undef = .int .u8 a := cc.slot 2 24 (by kernel_rfl) rfl; have q := QA.out; have q2 : (a : Int) < 8 := (by omega); simp only [execOp, Act.eval]; go_simp, rfl⟩)
      | n + 13, h => exact absurd h (by show ¬ (n + 13 < 13); omega)
    · intro VV w5 hlen hb5 hok
      match VV, hlen with
      | [v0, v1, v2, v3, v4, v5, v6, v7, v8, v9, v10, v11, v12], _ =>
        obtain rfl : v0 = .pointer (some ⟨b, 0, none⟩) := hok 0 22 rfl
        obtain rfl : v1 = .pointer (some ⟨w.heap.size, 1, none⟩) := hok 1 23 rfl
        obtain rfl : v2 = .int .u8 a := hok 2 24 rfl
        obtain rfl : v3 = .pointer (some ⟨b, 0, none⟩) := hok 3 25 rfl
        obtain rfl : v4 = .pointer (some ⟨w.heap.size, 2, none⟩) := hok 4 26 rfl
        obtain rfl : v5 = .int .u8 b9 := hok 5 27 rfl
        obtain rfl : v6 = .pointer (some ⟨b, 0, none⟩) := hok 6 28 rfl
        obtain rfl : v7 = .pointer (some ⟨b, 1, none⟩) := hok 7 29 rfl
        obtain rfl : v8 = .pointer (some ⟨b, 1 + b9, none⟩) := hok 8 30 rfl
        obtain rfl : v9 = .int .i64 rb := hok 9 31 rfl
        obtain rfl : v10 = .pointer (some ⟨b, 0, none⟩) := hok 10 32 rfl
        obtain rfl : v11 = .pointer (some ⟨b, 1, none⟩) := hok 11 33 rfl
        obtain rfl : v12 = .pointer (some ⟨b, 1 + a, none⟩) := hok 12 34 rfl
        have HM5 := Lib.hid (HM1.out.below hb5)
        have HF5 : Hid (Fr2 b A w w5) := Lib.hid (HF1.out.trans (Fr2.below hb5))
        clear hok hb5 hlen XB MB HM1 HF1 HBX RB9
        simp only [List.zip_cons_cons, List.zip_nil_right, putsL]
        go_simp
        have cR := HM5.out.blk.cell (mcs_reg HM5.out.len QA.out)
        have fR := HM5.out.blk.free (1 + a)
        have HP := Lib.hid (HM5.out.put (1 + a) (.int .i64 rb) { m with r := m.r.set a rb } (mcs_setReg HM5.out.len QA.out rb) (by rw [List.length_set]; exact HM5.out.len) rfl)
        have HFF := Lib.hid (HF5.out.trans (fr2_set w5 b (1 + a) A (.int .i64 rb)))
        obtain ⟨old, hold⟩ : ∃ old, w5.cell? ⟨b, 1 + a, none⟩ = some (.int .i64 old) := ⟨_, cR⟩
        clear cR
        go_wp2
        go_end0
        rw [HPL.out]
        exact ⟨rfl, HP.out, HFF.out⟩
  · -- Zero
    have QA : Hid (a < 8) := Lib.hid (ha (by omega))
    have hq : a < 8 := QA.out
    have hqz : (a : Int) < 8 := by omega
    have cR : (w.alloc (.cells #[.int .u8 (16 : Nat), .int .u8 a, .int .u8 b9, .int .u8 c9] 94)).cell? ⟨b, 1 + a, none⟩ = some (.int .i64 (m.reg a)) := HM1.out.blk.cell (mcs_reg HM1.out.len QA.out)
    have cR0 : w.cell? ⟨b, 1 + a, none⟩ = some (.int .i64 (m.reg a)) := HM.out.blk.cell (mcs_reg HM.out.len QA.out)
    obtain ⟨ra, hra⟩ : ∃ ra, ra = m.reg a := ⟨_, rfl⟩
    rw [← hra] at cR cR0
    clear cR
    by_cases h0 : ra = 0
    · have HPL : Hid (plainM m ⟨16, a, b9, c9⟩ = { m with place := num ⟨16, a, b9, c9⟩ }) := Lib.hid (by have : m.reg a = 0 := by rw [← hra]; exact h0
                                                                                                         simp [plainM, this])
      subst h0
      clear ha hb hc hz hra MB XB
      go_enter Tryz.func73, Tryz.ntmps73
      go_wp2_with fail
      go_quiet (fail)
      go_wp2_with fail
      refine (number_calls' _ ⟨16, a, b9, c9⟩ HI.out).mono ?_
      rintro e w5 ⟨rfl, hq5⟩
      have HM5 := Lib.hid (MM.below (MM.drewN HM1.out nq) hq5)
      have HF5 : Hid (Fr2 b A w w5) := Lib.hid ((HF1.out.drewN nq).trans (Fr2.below hq5))
      clear hq5 HM1 HF1 HBX HM
      have cP : w5.cell? ⟨b, 0, none⟩ = some (.int .i64 m.place) := HM5.out.blk.cell rfl
      have fP := HM5.out.blk.free 0
      obtain ⟨z, hz⟩ : ∃ z, z = num ⟨16, a, b9, c9⟩ := ⟨_, rfl⟩
      rw [← hz] at HPL ⊢
      have HP := Lib.hid (HM5.out.put 0 (.int .i64 z) { m with place := z } (mcs_setPlace z) HM5.out.len rfl)
      have HFF := Lib.hid (HF5.out.trans (fr2_set w5 b 0 A (.int .i64 z)))
      clear hz
      go_wp2
      go_end0
      rw [HPL.out]
      exact ⟨rfl, HP.out, HFF.out⟩
    · have HPL : Hid (plainM m ⟨16, a, b9, c9⟩ = m) := Lib.hid (by have : m.reg a ≠ 0 := by rw [← hra]; exact h0
                                                                   simp [plainM, this])
      have h0b : (ra != 0) = true := by simpa using h0
      clear ha hb hc hz hra h0 MB XB
      go_enter Tryz.func73, Tryz.ntmps73
      go_wp2_with fail
      go_quiet (fail)
      go_wp2
      go_end0
      rw [HPL.out]
      exact ⟨rfl, ⟨HM1.out.blk, HM1.out.len, HM1.out.own, HM1.out.ne⟩, HF1.out.drewN _⟩
  · -- Jump
    have HPL : Hid (plainM m ⟨15, a, b9, c9⟩ = { m with place := num ⟨15, a, b9, c9⟩ }) := Lib.hid (by simp [plainM])
    clear ha hb hc hz MB XB
    go_enter Tryz.func73, Tryz.ntmps73
    go_wp2_with fail
    refine (number_calls' _ ⟨15, a, b9, c9⟩ HI.out).mono ?_
    rintro e w5 ⟨rfl, hq5⟩
    have HM5 := Lib.hid (MM.below HM1.out hq5)
    have HF5 : Hid (Fr2 b A w w5) := Lib.hid (HF1.out.trans (Fr2.below hq5))
    clear hq5 HM1 HF1 HBX HM
    have cP : w5.cell? ⟨b, 0, none⟩ = some (.int .i64 m.place) := HM5.out.blk.cell rfl
    have fP := HM5.out.blk.free 0
    obtain ⟨z, hz⟩ : ∃ z, z = num ⟨15, a, b9, c9⟩ := ⟨_, rfl⟩
    rw [← hz] at HPL ⊢
    have HP := Lib.hid (HM5.out.put 0 (.int .i64 z) { m with place := z } (mcs_setPlace z) HM5.out.len rfl)
    have HFF := Lib.hid (HF5.out.trans (fr2_set w5 b 0 A (.int .i64 z)))
    clear hz
    go_wp2
    go_end0
    rw [HPL.out]
    exact ⟨rfl, HP.out, HFF.out⟩
  · -- three registers
    have QA : Hid (a < 8) := Lib.hid (ha (by omega))
    have QB : Hid (b9 < 8) := Lib.hid (hb (by omega))
    have QC : Hid (c9 < 8) := Lib.hid (hc (by omega))
    obtain ⟨rb, hrb⟩ : ∃ rb, rb = m.reg b9 := ⟨_, rfl⟩
    obtain ⟨rc, hrc⟩ : ∃ rc, rc = m.reg c9 := ⟨_, rfl⟩
    obtain ⟨z, hzz⟩ : ∃ z, z = res op rb rc := ⟨_, rfl⟩
    have RB9 : Hid (∀ w', Below (w.alloc (.cells #[.int .u8 op, .int .u8 a, .int .u8 b9, .int .u8 c9] 94)).drew.heap.size (w.alloc (.cells #[.int .u8 op, .int .u8 a, .int .u8 b9, .int .u8 c9] 94)).drew w' → w'.cell? ⟨b, 1 + b9, none⟩ = some (.int .i64 rb)) := Lib.hid fun w' hb' => by
      have hm := MB.out w' hb'
      rw [hrb]
      exact hm.blk.cell (mcs_reg hm.len QB.out)
    have RC9 : Hid (∀ w', Below (w.alloc (.cells #[.int .u8 op, .int .u8 a, .int .u8 b9, .int .u8 c9] 94)).drew.heap.size (w.alloc (.cells #[.int .u8 op, .int .u8 a, .int .u8 b9, .int .u8 c9] 94)).drew w' → w'.cell? ⟨b, 1 + c9, none⟩ = some (.int .i64 rc)) := Lib.hid fun w' hb' => by
      have hm := MB.out w' hb'
      rw [hrc]
      exact hm.blk.cell (mcs_reg hm.len QC.out)
    have RS : Hid (∀ w', Below (w.alloc (.cells #[.int .u8 op, .int .u8 a, .int .u8 b9, .int .u8 c9] 94)).drew.heap.size (w.alloc (.cells #[.int .u8 op, .int .u8 a, .int .u8 b9, .int .u8 c9] 94)).drew w' → Calls Tryz.prog 94 #[.int .u8 op, .int .i64 rb, .int .i64 rc] w' fun e w'' => ∃ v, e = .returned v ∧ v = .int .i64 z ∧ Below w'.heap.size w' w'') := Lib.hid fun w' _ => by
      refine (result_calls w' op rb rc ho (fun h => by rw [hrc]; exact hz h)).mono ?_
      rintro e w'' ⟨rfl, rfl⟩
      exact ⟨_, rfl, by rw [hzz], Below.refl _ _⟩
    have HPL : Hid (plainM m ⟨op, a, b9, c9⟩ = { m with r := m.r.set a z }) := Lib.hid (by
      unfold plainM
      rw [if_neg (by show ¬ op = 1; omega), if_neg (by show ¬ op = 2; omega), if_neg (by show ¬ op = 16; omega), if_neg (by show ¬ op = 15; omega), hzz, hrb, hrc])
    have e1 : ((op : Int) == 1) = false := by simp; omega
    have e2 : ((op : Int) == 2) = false := by simp; omega
    have e3 : ((op : Int) == 16) = false := by simp; omega
    have e4 : ((op : Int) == 15) = false := by simp; omega
    clear ha hb hc hz hrb hrc hzz ho
    go_enter Tryz.func73, Tryz.ntmps73
    go_wp2_with fail
    refine region_tails 23 (fun ix9 => ([.is (.pointer (some ⟨b, 0, none⟩)), .is (.pointer (some ⟨w.heap.size, 1, none⟩)), .is (.int .u8 a), .is (.pointer (some ⟨w.heap.size, 0, none⟩)), .is (.int .u8 op), .is (.pointer (some ⟨b, 0, none⟩)), .is (.pointer (some ⟨w.heap.size, 2, none⟩)), .is (.int .u8 b9), .is (.pointer (some ⟨b, 0, none⟩)), .is (.pointer (some ⟨b, 1, none⟩)), .is (.pointer (some ⟨b, 1 + b9, none⟩)), .is (.int .i64 rb), .is (.pointer (some ⟨b, 0, none⟩)), .is (.pointer (some ⟨w.heap.size, 3, none⟩)), .is (.int .u8 c9), .is (.pointer (some ⟨b, 0, none⟩)), .is (.pointer (some ⟨b, 1, none⟩)), .is (.pointer (some ⟨b, 1 + c9, none⟩)), .is (.int .i64 rc), .is (.int .i64 z), .is (.pointer (some ⟨b, 0, none⟩)), .is (.pointer (some ⟨b, 1, none⟩)), .is (.pointer (some ⟨b, 1 + a, none⟩))] : List VD).getD ix9 (.is undef)) [some 48, some 49, some 50, some 51, some 52, some 53, some 54, some 55, some 56, some 57, some 58, some 59, some 60, some 61, some 62, some 63, some 64, some 65, some 66, some 67, some 68, some 69, some 70] (by kernel_rfl) (by kernel_rfl) (by kernel_rfl) (by kernel_rfl) rfl (fun ii hii => ?_) ?_
    · match ii, hii with
      | 0, _ => exact mstep_first rfl (mwant_none rfl) 0 (Or.inl rfl) (by kernel_rfl) (fun _ _ => rfl)
      | 1, _ => exact mstep_pure rfl (mwant_none rfl) (fun aa ww cc => ⟨.pointer (some ⟨w.heap.size, 1, none⟩), by have e0 : aa.tmps.getD 3 undef = .pointer (some ⟨w.heap.size, 0, none⟩) := (cc.orig 3 (by kernel_rfl)).trans rfl; simp only [execOp, Act.eval]; go_simp, rfl⟩)
      | 2, _ => exact mstep_pure rfl (mwant_none rfl) (fun aa ww cc => ⟨.int .u8 a, by have e0 : aa.tmps.getD 49 undef = .pointer (some ⟨w.heap.size, 1, none⟩) := cc.slot 1 49 (by kernel_rfl) rfl; obtain ⟨x0, x1, x2, x3⟩ := XB.out _ cc.below; simp only [execOp, Act.eval]; go_simp, rfl⟩)
      | 3, _ => exact mstep_pure rfl (mwant_none rfl) (fun aa ww cc => ⟨.pointer (some ⟨w.heap.size, 0, none⟩), by have e0 : aa.tmps.getD 3 undef = .pointer (some ⟨w.heap.size, 0, none⟩) := (cc.orig 3 (by kernel_rfl)).trans rfl; simp only [execOp, Act.eval]; go_simp, rfl⟩)
      | 4, _ => exact mstep_pure rfl (mwant_none rfl) (fun aa ww cc => ⟨.int .u8 op, by have e0 : aa.tmps.getD 51 undef = .pointer (some ⟨w.heap.size, 0, none⟩) := cc.slot 3 51 (by kernel_rfl) rfl; obtain ⟨x0, x1, x2, x3⟩ := XB.out _ cc.below; simp only [execOp, Act.eval]; go_simp, rfl⟩)
      | 5, _ => exact mstep_first rfl (mwant_none rfl) 0 (Or.inl rfl) (by kernel_rfl) (fun _ _ => rfl)
      | 6, _ => exact mstep_pure rfl (mwant_none rfl) (fun aa ww cc => ⟨.pointer (some ⟨w.heap.size, 2, none⟩), by have e0 : aa.tmps.getD 3 undef = .pointer (some ⟨w.heap.size, 0, none⟩) := (cc.orig 3 (by kernel_rfl)).trans rfl; simp only [execOp, Act.eval]; go_simp, rfl⟩)
      | 7, _ => exact mstep_pure rfl (mwant_none rfl) (fun aa ww cc => ⟨.int .u8 b9, by have e0 : aa.tmps.getD 54 undef = .pointer (some ⟨w.heap.size, 2, none⟩) := cc.slot 6 54 (by kernel_rfl) rfl; obtain ⟨x0, x1, x2, x3⟩ := XB.out _ cc.below; simp only [execOp, Act.eval]; go_simp, rfl⟩)
      | 8, _ => exact mstep_pure rfl (mwant_none rfl) (fun aa ww cc => ⟨.pointer (some ⟨b, 0, none⟩), by have e0 : aa.tmps.getD 53 undef = .pointer (some ⟨b, 0, none⟩) := cc.slot 5 53 (by kernel_rfl) rfl; simp only [execOp, Act.eval]; go_simp, rfl⟩)
      | 9, _ => exact mstep_pure rfl (mwant_none rfl) (fun aa ww cc => ⟨.pointer (some ⟨b, 1, none⟩), by have e0 : aa.tmps.getD 56 undef = .pointer (some ⟨b, 0, none⟩) := cc.slot 8 56 (by kernel_rfl) rfl; simp only [execOp, Act.eval]; go_simp, rfl⟩)
      | 10, _ => exact mstep_pure rfl (mwant_none rfl) (fun aa ww cc => ⟨.pointer (some ⟨b, 1 + b9, none⟩), by have e0 : aa.tmps.getD 57 undef = .pointer (some ⟨b, 1, none⟩) := cc.slot 9 57 (by kernel_rfl) rfl; have e1 : aa.tmps.getD 55 undef = .int .u8 b9 := cc.slot 7 55 (by kernel_rfl) rfl; have q := QB.out; have q2 : (b9 : Int) < 8 := (by omega); simp only [execOp, Act.eval]; go_simp, rfl⟩)
      | 11, _ => exact mstep_pure rfl (mwant_none rfl) (fun aa ww cc => ⟨.int .i64 rb, by have e0 : aa.tmps.getD 58 undef = .pointer (some ⟨b, 1 + b9, none⟩) := cc.slot 10 58 (by kernel_rfl) rfl; have q := RB9.out _ cc.below; simp only [execOp, Act.eval]; go_simp, rfl⟩)
      | 12, _ => exact mstep_first rfl (mwant_none rfl) 0 (Or.inl rfl) (by kernel_rfl) (fun _ _ => rfl)
      | 13, _ => exact mstep_pure rfl (mwant_none rfl) (fun aa ww cc => ⟨.pointer (some ⟨w.heap.size, 3, none⟩), by have e0 : aa.tmps.getD 3 undef = .pointer (some ⟨w.heap.size, 0, none⟩) := (cc.orig 3 (by kernel_rfl)).trans rfl; simp only [execOp, Act.eval]; go_simp, rfl⟩)
      | 14, _ => exact mstep_pure rfl (mwant_none rfl) (fun aa ww cc => ⟨.int .u8 c9, by have e0 : aa.tmps.getD 61 undef = .pointer (some ⟨w.heap.size, 3, none⟩) := cc.slot 13 61 (by kernel_rfl) rfl; obtain ⟨x0, x1, x2, x3⟩ := XB.out _ cc.below; simp only [execOp, Act.eval]; go_simp, rfl⟩)
      | 15, _ => exact mstep_pure rfl (mwant_none rfl) (fun aa ww cc => ⟨.pointer (some ⟨b, 0, none⟩), by have e0 : aa.tmps.getD 60 undef = .pointer (some ⟨b, 0, none⟩) := cc.slot 12 60 (by kernel_rfl) rfl; simp only [execOp, Act.eval]; go_simp, rfl⟩)
      | 16, _ => exact mstep_pure rfl (mwant_none rfl) (fun aa ww cc => ⟨.pointer (some ⟨b, 1, none⟩), by have e0 : aa.tmps.getD 63 undef = .pointer (some ⟨b, 0, none⟩) := cc.slot 15 63 (by kernel_rfl) rfl; simp only [execOp, Act.eval]; go_simp, rfl⟩)
      | 17, _ => exact mstep_pure rfl (mwant_none rfl) (fun aa ww cc => ⟨.pointer (some ⟨b, 1 + c9, none⟩), by have e0 : aa.tmps.getD 64 undef = .pointer (some ⟨b, 1, none⟩) := cc.slot 16 64 (by kernel_rfl) rfl; have e1 : aa.tmps.getD 62 undef = .int .u8 c9 := cc.slot 14 62 (by kernel_rfl) rfl; have q := QC.out; have q2 : (c9 : Int) < 8 := (by omega); simp only [execOp, Act.eval]; go_simp, rfl⟩)
      | 18, _ => exact mstep_pure rfl (mwant_none rfl) (fun aa ww cc => ⟨.int .i64 rc, by have e0 : aa.tmps.getD 65 undef = .pointer (some ⟨b, 1 + c9, none⟩) := cc.slot 17 65 (by kernel_rfl) rfl; have q := RC9.out _ cc.below; simp only [execOp, Act.eval]; go_simp, rfl⟩)
      | 19, _ => exact mstep_call rfl (mwant_none rfl) _ _ _ rfl (enters_of Tryz.func94 (by kernel_rfl) rfl) (fun aa ww cc => by have e0 : aa.tmps.getD 52 undef = .int .u8 op := cc.slot 4 52 (by kernel_rfl) rfl; have e1 : aa.tmps.getD 59 undef = .int .i64 rb := cc.slot 11 59 (by kernel_rfl) rfl; have e2 : aa.tmps.getD 66 undef = .int .i64 rc := cc.slot 18 66 (by kernel_rfl) rfl; simp only [List.map_toArray, List.map_cons, List.map_nil, Act.eval, e0, e1, e2]; exact (RS.out) ww cc.below)
      | 20, _ => exact mstep_pure rfl (mwant_none rfl) (fun aa ww cc => ⟨.pointer (some ⟨b, 0, none⟩), by have e0 : aa.tmps.getD 48 undef = .pointer (some ⟨b, 0, none⟩) := cc.slot 0 48 (by kernel_rfl) rfl; simp only [execOp, Act.eval]; go_simp, rfl⟩)
      | 21, _ => exact mstep_pure rfl (mwant_none rfl) (fun aa ww cc => ⟨.pointer (some ⟨b, 1, none⟩), by have e0 : aa.tmps.getD 68 undef = .pointer (some ⟨b, 0, none⟩) := cc.slot 20 68 (by kernel_rfl) rfl; simp only [execOp, Act.eval]; go_simp, rfl⟩)
      | 22, _ => exact mstep_pure rfl (mwant_none rfl) (fun aa ww cc => ⟨.pointer (some ⟨b, 1 + a, none⟩), by have e0 : aa.tmps.getD 69 undef = .pointer (some ⟨b, 1, none⟩) := cc.slot 21 69 (by kernel_rfl) rfl; have e1 : aa.tmps.getD 50 undef = .int .u8 a := cc.slot 2 50 (by kernel_rfl) rfl; have q := QA.out; have q2 : (a : Int) < 8 := (by omega); simp only [execOp, Act.eval]; go_simp, rfl⟩)
      | n + 23, h => exact absurd h (by show ¬ (n + 23 < 23); omega)
    · intro VV w5 hlen hb5 hok
      match VV, hlen with
      | [v0, v1, v2, v3, v4, v5, v6, v7, v8, v9, v10, v11, v12, v13, v14, v15, v16, v17, v18, v19, v20, v21, v22], _ =>
        obtain rfl : v0 = .pointer (some ⟨b, 0, none⟩) := hok 0 48 rfl
        obtain rfl : v1 = .pointer (some ⟨w.heap.size, 1, none⟩) := hok 1 49 rfl
        obtain rfl : v2 = .int .u8 a := hok 2 50 rfl
        obtain rfl : v3 = .pointer (some ⟨w.heap.size, 0, none⟩) := hok 3 51 rfl
        obtain rfl : v4 = .int .u8 op := hok 4 52 rfl
        obtain rfl : v5 = .pointer (some ⟨b, 0, none⟩) := hok 5 53 rfl
        obtain rfl : v6 = .pointer (some ⟨w.heap.size, 2, none⟩) := hok 6 54 rfl
        obtain rfl : v7 = .int .u8 b9 := hok 7 55 rfl
        obtain rfl : v8 = .pointer (some ⟨b, 0, none⟩) := hok 8 56 rfl
        obtain rfl : v9 = .pointer (some ⟨b, 1, none⟩) := hok 9 57 rfl
        obtain rfl : v10 = .pointer (some ⟨b, 1 + b9, none⟩) := hok 10 58 rfl
        obtain rfl : v11 = .int .i64 rb := hok 11 59 rfl
        obtain rfl : v12 = .pointer (some ⟨b, 0, none⟩) := hok 12 60 rfl
        obtain rfl : v13 = .pointer (some ⟨w.heap.size, 3, none⟩) := hok 13 61 rfl
        obtain rfl : v14 = .int .u8 c9 := hok 14 62 rfl
        obtain rfl : v15 = .pointer (some ⟨b, 0, none⟩) := hok 15 63 rfl
        obtain rfl : v16 = .pointer (some ⟨b, 1, none⟩) := hok 16 64 rfl
        obtain rfl : v17 = .pointer (some ⟨b, 1 + c9, none⟩) := hok 17 65 rfl
        obtain rfl : v18 = .int .i64 rc := hok 18 66 rfl
        obtain rfl : v19 = .int .i64 z := hok 19 67 rfl
        obtain rfl : v20 = .pointer (some ⟨b, 0, none⟩) := hok 20 68 rfl
        obtain rfl : v21 = .pointer (some ⟨b, 1, none⟩) := hok 21 69 rfl
        obtain rfl : v22 = .pointer (some ⟨b, 1 + a, none⟩) := hok 22 70 rfl
        have HM5 := Lib.hid (HM1.out.below hb5)
        have HF5 : Hid (Fr2 b A w w5) := Lib.hid (HF1.out.trans (Fr2.below hb5))
        clear hok hb5 hlen XB MB HM1 HF1 HBX RB9 RC9 RS
        simp only [List.zip_cons_cons, List.zip_nil_right, putsL]
        go_simp
        have cR := HM5.out.blk.cell (mcs_reg HM5.out.len QA.out)
        have fR := HM5.out.blk.free (1 + a)
        have HP := Lib.hid (HM5.out.put (1 + a) (.int .i64 z) { m with r := m.r.set a z } (mcs_setReg HM5.out.len QA.out z) (by rw [List.length_set]; exact HM5.out.len) rfl)
        have HFF := Lib.hid (HF5.out.trans (fr2_set w5 b (1 + a) A (.int .i64 z)))
        obtain ⟨old, hold⟩ : ∃ old, w5.cell? ⟨b, 1 + a, none⟩ = some (.int .i64 old) := ⟨_, cR⟩
        clear cR
        go_wp2
        go_end0
        rw [HPL.out]
        exact ⟨rfl, HP.out, HFF.out⟩
end Go.Proofs.YtjfpoahmjgeogaaGreatDoor
