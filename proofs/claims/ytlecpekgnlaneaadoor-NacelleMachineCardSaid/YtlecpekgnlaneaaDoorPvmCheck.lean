/- code: Check; pvm: illFormed. -/
import Derived.Test.YtlecpekgnlaneaaDoorPvmIns
import Derived.Test.YtlecpekgnlaneaaDoorFault
namespace Go.Proofs.YtlecpekgnlaneaaDoor
open Go.RowKit Nac Nac.Pvm
/-- the slice at A reads as the instructions -/
def RIn (w : World) (B : Nat) (A : Option Addr) (l : List Ins) : Prop :=
  l ≠ [] → ∃ b o, A = some ⟨b, o, none⟩ ∧ b < B ∧ ∀ j (h : j < l.length), w.cell? ⟨b, o + j * 4, none⟩ = some (.int .u8 l[j].op) ∧ w.cell? ⟨b, o + j * 4 + 1, none⟩ = some (.int .u8 l[j].a) ∧ w.cell? ⟨b, o + j * 4 + 2, none⟩ = some (.int .u8 l[j].b) ∧ w.cell? ⟨b, o + j * 4 + 3, none⟩ = some (.int .u8 l[j].c) ∧ l[j].fits
theorem RIn.get {w : World} {B : Nat} {A : Option Addr} {l : List Ins} (h : RIn w B A l) {j : Nat} (hj : j < l.length) :
    ∃ b o, A = some ⟨b, o, none⟩ ∧ b < B ∧ w.cell? ⟨b, o + j * 4, none⟩ = some (.int .u8 l[j].op) ∧ w.cell? ⟨b, o + j * 4 + 1, none⟩ = some (.int .u8 l[j].a) ∧ w.cell? ⟨b, o + j * 4 + 2, none⟩ = some (.int .u8 l[j].b) ∧ w.cell? ⟨b, o + j * 4 + 3, none⟩ = some (.int .u8 l[j].c) ∧ l[j].fits := by
  obtain ⟨b, o, hA, hb, hc⟩ := h (by intro e; subst e; simp at hj)
  exact ⟨b, o, hA, hb, hc j hj⟩
theorem RIn.below {w w' : World} {B : Nat} {A : Option Addr} {l : List Ins} (h : RIn w B A l) (hb : Below B w w') : RIn w' B A l := fun hn => by
  obtain ⟨b, o, hA, hlt, hc⟩ := h hn
  refine ⟨b, o, hA, hlt, fun j hj => ?_⟩
  obtain ⟨h1, h2, h3, h4, h5⟩ := hc j hj
  exact ⟨(hb.cell (p := ⟨b, _, none⟩) hlt).trans h1, (hb.cell (p := ⟨b, _, none⟩) hlt).trans h2, (hb.cell (p := ⟨b, _, none⟩) hlt).trans h3, (hb.cell (p := ⟨b, _, none⟩) hlt).trans h4, h5⟩
theorem faultAt_step (n : Nat) (l : List Ins) (k : Nat) (h : k < l.length) (i : Nat) : faultAt n (l.drop k) i = if wf l[k] = false then some (3, i) else if leads l[k] = true ∧ (n : Int) ≤ num l[k] then some (4, i) else faultAt n (l.drop (k + 1)) (i + 1) := by
  rw [List.drop_eq_getElem_cons h]
  rfl
theorem check_some {l : List Ins} {f : Nat × Nat} (h1 : l.length ≠ 0) (h2 : l.length ≤ 128) (hf : faultAt l.length l 0 = some f) : check l = some f := by
  unfold check
  rw [if_neg (by omega), hf]
theorem check_none {l : List Ins} (h1 : l.length ≠ 0) (h2 : l.length ≤ 128) (hf : faultAt l.length l 0 = none) :
    check l = if (l.getD (l.length - 1) default).op ≠ 0 ∧ (l.getD (l.length - 1) default).op ≠ 15 then some (2, l.length - 1) else none := by
  unfold check
  rw [if_neg (by omega), hf]
set_option maxHeartbeats 4000000 in
theorem check_calls (w : World) (A : Option Addr) (c : Nat) (l : List Ins) (h : RIn w w.heap.size A l) (h8 : l.length ≤ 140737488351232) :
    Calls Tryd.prog 15 #[.slice A l.length c] w (RetErr w (check l)) := by
  have HR := Lib.hid h
  clear h
  obtain ⟨n, hn⟩ : ∃ n, n = l.length := ⟨_, rfl⟩
  have HN := Lib.hid hn
  rw [← hn] at h8 ⊢
  clear hn
  rcases (by omega : n = 0 ∨ 128 < n ∨ (0 < n ∧ n ≤ 128)) with h0 | h0 | ⟨h0, h1⟩
  · have hc : Hid (check l = some (1, 0)) := Lib.hid (by unfold check; rw [if_pos (by rw [← HN.out]; omega)])
    go_enter Tryd.func15, Tryd.ntmps15
    go_wp2_with fail
    refine (fault_new w 1 0 (by omega)).mono ?_
    rintro e w2 ⟨⟨v, rfl, hv⟩, hb2⟩
    have HV := Lib.hid hv
    have HB := Lib.hid hb2
    clear hv hb2
    go_wp2
    go_ret
    rw [hc.out]
    exact ⟨⟨v, rfl, HV.out⟩, HB.out⟩
  · have hc : Hid (check l = some (1, 0)) := Lib.hid (by unfold check; rw [if_pos (by rw [← HN.out]; omega)])
    have hne : ((n : Int) == 0) = false := by simp; omega
    go_enter Tryd.func15, Tryd.ntmps15
    go_wp2_with fail
    refine (fault_new w 1 0 (by omega)).mono ?_
    rintro e w2 ⟨⟨v, rfl, hv⟩, hb2⟩
    have HV := Lib.hid hv
    have HB := Lib.hid hb2
    clear hv hb2
    go_wp2
    go_ret
    rw [hc.out]
    exact ⟨⟨v, rfl, HV.out⟩, HB.out⟩
  · have HC : Hid (∀ f, faultAt n l 0 = some f → check l = some f) := Lib.hid fun f hf => check_some (by rw [← HN.out]; omega) (by rw [← HN.out]; exact h1) (by rw [← HN.out]; exact hf)
    have HCN : Hid (faultAt n l 0 = none → check l = if (l.getD (n - 1) default).op ≠ 0 ∧ (l.getD (n - 1) default).op ≠ 15 then some (2, n - 1) else none) := Lib.hid fun hf => by
      have := check_none (l := l) (by rw [← HN.out]; omega) (by rw [← HN.out]; exact h1) (by rw [← HN.out]; exact hf)
      rwa [← HN.out] at this
    have hne : ((n : Int) == 0) = false := by simp; omega
    go_enter Tryd.func15, Tryd.ntmps15
    go_wp2_with fail
    go_loopw [17] (fun s17 wr => ∃ (k : Nat), k ≤ n ∧ s17 = .int .i64 k ∧ Hid (faultAt n (l.drop k) k = faultAt n l 0) ∧ Hid (Below w.heap.size w wr)) (fun s17 _ => n - (intOf s17).toNat)
    case atStart => exact ⟨0, Nat.zero_le _, rfl, Lib.hid rfl, Lib.hid (Below.refl _ _)⟩
    case round =>
      obtain ⟨k, hk, rfl, HT, HB⟩ := hrel
      by_cases hlt : k < n
      · have hkl : k < l.length := by rw [← HN.out]; exact hlt
        obtain ⟨b, o, hA, hb, h0', h1', h2', h3', hfit⟩ := HR.out.get hkl
        subst hA
        obtain ⟨i, hi⟩ : ∃ i, i = l[k] := ⟨_, rfl⟩
        have hst := faultAt_step n l k hkl k
        rw [← hi] at h0' h1' h2' h3' hfit hst
        have d0 : wr.cell? ⟨b, o + k * 4, none⟩ = some (.int .u8 i.op) := (HB.out.cell (p := ⟨b, _, none⟩) hb).trans h0'
        have d1 : wr.cell? ⟨b, o + k * 4 + 1, none⟩ = some (.int .u8 i.a) := (HB.out.cell (p := ⟨b, _, none⟩) hb).trans h1'
        have d2 : wr.cell? ⟨b, o + k * 4 + 2, none⟩ = some (.int .u8 i.b) := (HB.out.cell (p := ⟨b, _, none⟩) hb).trans h2'
        have d3 : wr.cell? ⟨b, o + k * 4 + 3, none⟩ = some (.int .u8 i.c) := (HB.out.cell (p := ⟨b, _, none⟩) hb).trans h3'
        have HF := Lib.hid hfit
        have HST := Lib.hid hst
        have hbw : b < wr.heap.size := Nat.lt_of_lt_of_le hb HB.out.size
        have HBX : Hid (Box (wr.alloc (.cells #[.int .u8 i.op, .int .u8 i.a, .int .u8 i.b, .int .u8 i.c] 41)) wr.heap.size [.int .u8 i.op, .int .u8 i.a, .int .u8 i.b, .int .u8 i.c]) := Box.new wr _ _
        have HBW : Hid (Below w.heap.size w (wr.alloc (.cells #[.int .u8 i.op, .int .u8 i.a, .int .u8 i.b, .int .u8 i.c] 41))) := Lib.hid (HB.out.alloc HB.out.size _)
        clear h0' h1' h2' h3' hfit hst hi hkl hb
        go_wp2_with fail
        refine (wf_calls _ i HF.out).mono ?_
        rintro e w2 ⟨rfl, hb2⟩
        have HX2 := Lib.hid (HBX.out.below hb2 HBX.out.lt)
        have HB2 : Hid (Below w.heap.size w w2) := Lib.hid (HBW.out.trans (hb2.mono HBW.out.size))
        have x0 : w2.cell? ⟨wr.heap.size, 0, none⟩ = some (.int .u8 i.op) := HX2.out.cell rfl
        have x1 : w2.cell? ⟨wr.heap.size, 1, none⟩ = some (.int .u8 i.a) := HX2.out.cell rfl
        have x2 : w2.cell? ⟨wr.heap.size, 2, none⟩ = some (.int .u8 i.b) := HX2.out.cell rfl
        have x3 : w2.cell? ⟨wr.heap.size, 3, none⟩ = some (.int .u8 i.c) := HX2.out.cell rfl
        clear hb2 HBX HBW d0 d1 d2 d3
        cases hwf : wf i with
        | false =>
          have hc : Hid (check l = some (3, k)) := Lib.hid (HC.out _ (by rw [← HT.out, HST.out, if_pos hwf]))
          clear HC HCN HST HT hwf
          go_wp2_with fail
          refine (fault_new w2 3 k (by omega)).mono ?_
          rintro e w3 ⟨⟨v, rfl, hv⟩, hb3⟩
          have HV := Lib.hid hv
          have HB3 : Hid (Below w.heap.size w w3) := Lib.hid (HB2.out.trans (hb3.mono HB2.out.size))
          clear hv hb3
          go_wp2
          go_ret
          rw [hc.out]
          exact ⟨⟨v, rfl, HV.out⟩, HB3.out⟩
        | true =>
          have HWF := Lib.hid hwf
          clear hwf
          go_wp2_with fail
          refine (leads_calls w2 i).mono ?_
          rintro e w3 ⟨rfl, hb3⟩
          have HX3 := Lib.hid (HX2.out.below hb3 HX2.out.lt)
          have HB3 : Hid (Below w.heap.size w w3) := Lib.hid (HB2.out.trans (hb3.mono HB2.out.size))
          clear hb3 HX2 HB2 x0 x1 x2 x3
          have x0 : w3.cell? ⟨wr.heap.size, 0, none⟩ = some (.int .u8 i.op) := HX3.out.cell rfl
          have x1 : w3.cell? ⟨wr.heap.size, 1, none⟩ = some (.int .u8 i.a) := HX3.out.cell rfl
          have x2 : w3.cell? ⟨wr.heap.size, 2, none⟩ = some (.int .u8 i.b) := HX3.out.cell rfl
          have x3 : w3.cell? ⟨wr.heap.size, 3, none⟩ = some (.int .u8 i.c) := HX3.out.cell rfl
          cases hld : leads i with
          | false =>
            have HT' : Hid (faultAt n (l.drop (k + 1)) (k + 1) = faultAt n l 0) := Lib.hid (by rw [← HT.out, HST.out, if_neg (by rw [HWF.out]; simp), if_neg (by rw [hld]; simp)])
            clear HST HT hld
            go_wp2
            go_roundw
            case rel => exact ⟨k + 1, by omega, by go_num, HT', HB3⟩
            case measure => simp [intOf]; omega
          | true =>
            have HLD := Lib.hid hld
            clear hld
            go_wp2_with fail
            refine (number_calls' w3 i HF.out).mono ?_
            rintro e w4 ⟨rfl, hb4⟩
            have HX4 := Lib.hid (HX3.out.below hb4 HX3.out.lt)
            have HB4 : Hid (Below w.heap.size w w4) := Lib.hid (HB3.out.trans (hb4.mono HB3.out.size))
            clear hb4 HX3 HB3 x0 x1 x2 x3
            obtain ⟨z, hz⟩ : ∃ z, z = num i := ⟨_, rfl⟩
            have HZ := Lib.hid hz
            rw [← hz]
            clear hz
            by_cases hnz : (n : Int) ≤ z
            · have hc : Hid (check l = some (4, k)) := Lib.hid (HC.out _ (by rw [← HT.out, HST.out, if_neg (by rw [HWF.out]; simp), if_pos ⟨HLD.out, by rw [← HZ.out]; exact hnz⟩]))
              clear HC HCN HST HT
              go_wp2_with fail
              refine (fault_new w4 4 k (by omega)).mono ?_
              rintro e w5 ⟨⟨v, rfl, hv⟩, hb5⟩
              have HV := Lib.hid hv
              have HB5 : Hid (Below w.heap.size w w5) := Lib.hid (HB4.out.trans (hb5.mono HB4.out.size))
              clear hv hb5
              go_wp2
              go_ret
              rw [hc.out]
              exact ⟨⟨v, rfl, HV.out⟩, HB5.out⟩
            · have HT' : Hid (faultAt n (l.drop (k + 1)) (k + 1) = faultAt n l 0) := Lib.hid (by rw [← HT.out, HST.out, if_neg (by rw [HWF.out]; simp), if_neg (by rw [← HZ.out]; exact fun h => hnz h.2)])
              clear HST HT
              go_wp2
              go_roundw
              case rel => exact ⟨k + 1, by omega, by go_num, HT', HB4⟩
              case measure => simp [intOf]; omega
      · have hkn : k = n := by omega
        subst hkn
        have hnone : faultAt k l 0 = none := by rw [← HT.out, List.drop_of_length_le (by rw [← HN.out]; exact Nat.le_refl _)]; rfl
        have hck := HCN.out hnone
        have hkl : k - 1 < l.length := by rw [← HN.out]; omega
        obtain ⟨b, o, hA, hb, h0', h1', h2', h3', hfit⟩ := HR.out.get hkl
        subst hA
        obtain ⟨op, hop⟩ : ∃ op, op = (l[k - 1]'hkl).op := ⟨_, rfl⟩
        rw [← hop] at h0'
        have hgd : (l.getD (k - 1) default).op = op := by rw [List.getD_eq_getElem?_getD, List.getElem?_eq_getElem hkl, hop]; rfl
        have d0 : wr.cell? ⟨b, o + (k - 1) * 4, none⟩ = some (.int .u8 op) := (HB.out.cell (p := ⟨b, _, none⟩) hb).trans h0'
        have HCK := Lib.hid hck
        have HGD := Lib.hid hgd
        have hk1 : k - 1 < k := by omega
        obtain ⟨j, hj⟩ : ∃ j, j = k - 1 := ⟨_, rfl⟩
        have hjk : (k : Int) - 1 = (j : Int) := by omega
        rw [← hj] at d0 hk1 HCK HGD
        have HJ := Lib.hid hj
        clear hgd hnone hck hfit h1' h2' h3' hop h0' hj hkl hb HCN HC HT hlt
        rcases (by omega : op = 0 ∨ op = 15 ∨ (op ≠ 0 ∧ op ≠ 15)) with hop | hop | ⟨hop, hop2⟩
        · have hc : Hid (check l = none) := Lib.hid (by rw [HCK.out, if_neg (by rw [HGD.out]; omega)])
          subst hop
          clear HCK
          go_wp2
          go_ret
          rw [hc.out]
          exact ⟨⟨_, rfl, rfl⟩, HB.out⟩
        · have hc : Hid (check l = none) := Lib.hid (by rw [HCK.out, if_neg (by rw [HGD.out]; omega)])
          subst hop
          clear HCK
          go_wp2
          go_ret
          rw [hc.out]
          exact ⟨⟨_, rfl, rfl⟩, HB.out⟩
        · have hc : Hid (check l = some (2, j)) := Lib.hid (by rw [HCK.out, if_pos (by rw [HGD.out]; exact ⟨hop, hop2⟩)])
          have hb1 : ((op : Int) != 0) = true := by simp; omega
          have hb2 : ((op : Int) != 15) = true := by simp; omega
          clear HCK hop hop2
          go_wp2_with fail
          refine (fault_new wr 2 j (by omega)).mono ?_
          rintro e w5 ⟨⟨v, rfl, hv⟩, hb5⟩
          have HV := Lib.hid hv
          have HB5 : Hid (Below w.heap.size w w5) := Lib.hid (HB.out.trans (hb5.mono HB.out.size))
          clear hv hb5
          go_wp2
          go_ret
          rw [hc.out]
          exact ⟨⟨v, rfl, HV.out⟩, HB5.out⟩
end Go.Proofs.YtlecpekgnlaneaaDoor
