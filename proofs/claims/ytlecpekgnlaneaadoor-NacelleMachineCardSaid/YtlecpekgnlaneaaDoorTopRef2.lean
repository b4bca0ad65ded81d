/- The document's answer for layer 7: Check. -/
import Derived.Test.YtlecpekgnlaneaaDoorTopRef
namespace Go.Proofs.YtlecpekgnlaneaaDoor
open Go.RowKit Nac Nac.Pvm
def chk2 (l : List Ins) : Nat × Nat := (check l).getD (0, 0)
def RetNN (w : World) (x : Nat × Nat) (e : Ending) (w' : World) : Prop := e = .returned (.tuple #[.int .i64 (x.1 : Int), .int .i64 (x.2 : Int)]) ∧ Below w.heap.size w w'
theorem rcheck_calls (w : World) (A : Option Addr) (c : Nat) (l : List Ins) (h : RIn w w.heap.size A l) (h8 : l.length ≤ 140737488351232) :
    Calls Tryd.prog 6 #[.slice A l.length c] w (RetNN w (chk2 l)) := by
  have HR := Lib.hid h
  clear h
  obtain ⟨n, hn⟩ : ∃ n, n = l.length := ⟨_, rfl⟩
  have HN := Lib.hid hn
  rw [← hn] at h8 ⊢
  clear hn
  rcases (by omega : n < 1 ∨ (1 ≤ n ∧ 128 < n) ∨ (1 ≤ n ∧ n ≤ 128)) with h0 | ⟨h1, h0⟩ | ⟨h0, h1⟩
  · have hc : Hid (chk2 l = (1, 0)) := Lib.hid (by unfold chk2 check; rw [if_pos (by rw [← HN.out]; omega)]; rfl)
    have h0' : (n : Int) < 1 := by omega
    go_enter Tryd.func6, Tryd.ntmps6
    go_wp2
    go_ret2
    exact ⟨by rw [hc.out]; rfl, Below.refl _ _⟩
  · have hc : Hid (chk2 l = (1, 0)) := Lib.hid (by unfold chk2 check; rw [if_pos (by rw [← HN.out]; omega)]; rfl)
    have h0' : ¬ (n : Int) < 1 := by omega
    go_enter Tryd.func6, Tryd.ntmps6
    go_wp2
    go_ret2
    exact ⟨by rw [hc.out]; rfl, Below.refl _ _⟩
  · have HC : Hid (∀ f, faultAt n l 0 = some f → chk2 l = f) := Lib.hid fun f hf => by
      unfold chk2
      rw [check_some (by rw [← HN.out]; omega) (by rw [← HN.out]; exact h1) (by rw [← HN.out]; exact hf)]; rfl
    have HCN : Hid (faultAt n l 0 = none → chk2 l = if (l.getD (n - 1) default).op ≠ 0 ∧ (l.getD (n - 1) default).op ≠ 15 then (2, n - 1) else (0, 0)) := Lib.hid fun hf => by
      have := check_none (l := l) (by rw [← HN.out]; omega) (by rw [← HN.out]; exact h1) (by rw [← HN.out]; exact hf)
      rw [← HN.out] at this
      unfold chk2
      rw [this]
      split <;> rfl
    have h0' : ¬ (n : Int) < 1 := by omega
    go_enter Tryd.func6, Tryd.ntmps6
    go_wp2
    clear h0'
    go_loopw [4] (fun s4 wr => ∃ (k : Nat), k ≤ n ∧ s4 = .int .i64 k ∧ Hid (faultAt n (l.drop k) k = faultAt n l 0) ∧ Hid (Below w.heap.size w wr)) (fun s4 _ => n - (intOf s4).toNat)
    case atStart => exact ⟨0, Nat.zero_le _, rfl, Lib.hid rfl, Lib.hid (Below.refl _ _)⟩
    case round =>
      obtain ⟨k, hk, rfl, HT, HB⟩ := hrel
      by_cases hlt : k < n
      · have hkl : k < l.length := by rw [← HN.out]; exact hlt
        obtain ⟨b, o, hA, hb, h0', h1', h2', h3', hfit⟩ := HR.out.get hkl
        subst hA
        obtain ⟨i, hi⟩ : ∃ i, i = l[k] := ⟨_, rfl⟩
        have hst := faultAt_step n l k hkl k
        rw [← hi] at h0' h1' h2' h3' hfit hst
        have d0 : wr.cell? ⟨b, o + k * 4, none⟩ = some (.int .u8 i.op) := (HB.out.cell (p := ⟨b, _, none⟩) hb).trans h0'
        have d1 : wr.cell? ⟨b, o + k * 4 + 1, none⟩ = some (.int .u8 i.a) := (HB.out.cell (p := ⟨b, _, none⟩) hb).trans h1'
        have d2 : wr.cell? ⟨b, o + k * 4 + 2, none⟩ = some (.int .u8 i.b) := (HB.out.cell (p := ⟨b, _, none⟩) hb).trans h2'
        have d3 : wr.cell? ⟨b, o + k * 4 + 3, none⟩ = some (.int .u8 i.c) := (HB.out.cell (p := ⟨b, _, none⟩) hb).trans h3'
        have HF := Lib.hid hfit
        have HST := Lib.hid hst
        have hbw : b < wr.heap.size := Nat.lt_of_lt_of_le hb HB.out.size
        clear h0' h1' h2' h3' hfit hst hi hkl hb
        go_wp2_with fail
        refine (formed_calls wr i HF.out).mono ?_
        rintro e w2 ⟨rfl, hb2⟩
        have HB2 : Hid (Below w.heap.size w w2) := Lib.hid (HB.out.trans (hb2.mono HB.out.size))
        have x0 : w2.cell? ⟨b, o + k * 4, none⟩ = some (.int .u8 i.op) := (hb2.cell (p := ⟨b, _, none⟩) hbw).trans d0
        have x1 : w2.cell? ⟨b, o + k * 4 + 1, none⟩ = some (.int .u8 i.a) := (hb2.cell (p := ⟨b, _, none⟩) hbw).trans d1
        have x2 : w2.cell? ⟨b, o + k * 4 + 2, none⟩ = some (.int .u8 i.b) := (hb2.cell (p := ⟨b, _, none⟩) hbw).trans d2
        have x3 : w2.cell? ⟨b, o + k * 4 + 3, none⟩ = some (.int .u8 i.c) := (hb2.cell (p := ⟨b, _, none⟩) hbw).trans d3
        clear hb2 d0 d1 d2 d3 hbw HB
        cases hwf : wf i with
        | false =>
          have hc : Hid (chk2 l = (3, k)) := Lib.hid (HC.out _ (by rw [← HT.out, HST.out, if_pos hwf]))
          clear HC HCN HST HT hwf
          go_wp2
          go_ret2
          exact ⟨by rw [hc.out]; rfl, HB2.out⟩
        | true =>
          have HWF := Lib.hid hwf
          clear hwf
          by_cases hld : i.op = 15 ∨ i.op = 16
          · have HLD : Hid (leads i = true) := Lib.hid (by unfold leads; simpa using hld)
            have hcase : (i.op = 15) ∨ (((i.op : Int) == 15) = false ∧ i.op = 16) := by
              rcases hld with h | h
              · exact .inl h
              · exact .inr ⟨by rw [h]; rfl, h⟩
            clear hld
            obtain ⟨op, hop⟩ : ∃ op, op = i.op := ⟨_, rfl⟩
            have hargs : (Value.agg #[.int .u8 (i.op : Int), .int .u8 (i.a : Int), .int .u8 (i.b : Int), .int .u8 (i.c : Int)]) = .agg #[.int .u8 (op : Int), .int .u8 (i.a : Int), .int .u8 (i.b : Int), .int .u8 (i.c : Int)] := by rw [hop]
            have hnum := rnumber_calls w2 i HF.out
            rw [hargs] at hnum
            rw [← hop] at x0 hcase
            have HNUM := Lib.hid hnum
            clear hargs hnum hop
            obtain ⟨z, hz⟩ : ∃ z, z = num i := ⟨_, rfl⟩
            have HZ := Lib.hid hz
            rw [← hz] at HNUM
            clear hz
            rcases hcase with rfl | ⟨hb15, rfl⟩
            all_goals
              go_wp2_with fail
              refine HNUM.out.mono ?_
              rintro e w4 ⟨rfl, hb4⟩
              have HB4 : Hid (Below w.heap.size w w4) := Lib.hid (HB2.out.trans (hb4.mono HB2.out.size))
              clear hb4 HB2 x0 x1 x2 x3
              by_cases hnz : (n : Int) ≤ z
              · have hc : Hid (chk2 l = (4, k)) := Lib.hid (HC.out _ (by rw [← HT.out, HST.out, if_neg (by rw [HWF.out]; simp), if_pos ⟨HLD.out, by rw [← HZ.out]; exact hnz⟩]))
                clear HC HCN HST HT
                go_wp2
                go_ret2
                exact ⟨by rw [hc.out]; rfl, HB4.out⟩
              · have HT' : Hid (faultAt n (l.drop (k + 1)) (k + 1) = faultAt n l 0) := Lib.hid (by rw [← HT.out, HST.out, if_neg (by rw [HWF.out]; simp), if_neg (by rw [← HZ.out]; exact fun h => hnz h.2)])
                clear HST HT
                go_wp2
                go_roundw
                case rel => exact ⟨k + 1, by omega, by go_num, HT', HB4⟩
                case measure => simp [intOf]; omega
          · have hl1 : ((i.op : Int) == 15) = false := by simp; omega
            have hl2 : ((i.op : Int) == 16) = false := by simp; omega
            have hlf : leads i = false := by unfold leads; simp; omega
            have HT' : Hid (faultAt n (l.drop (k + 1)) (k + 1) = faultAt n l 0) := Lib.hid (by rw [← HT.out, HST.out, if_neg (by rw [HWF.out]; simp), if_neg (by rw [hlf]; simp)])
            clear HST HT hlf hld
            go_wp2
            go_roundw
            case rel => exact ⟨k + 1, by omega, by go_num, HT', HB2⟩
            case measure => simp [intOf]; omega
      · have hk9 : k = n := by omega
        have hfn : faultAt n l 0 = none := by
          rw [← HT.out, hk9, HN.out, List.drop_length]; rfl
        have HX := Lib.hid (HCN.out hfn)
        subst hk9
        have hkl : k - 1 < l.length := by rw [← HN.out]; omega
        obtain ⟨b, o, hA, hb, h0', h1x, h2x, h3x, hfit⟩ := HR.out.get hkl
        subst hA
        obtain ⟨i, hi⟩ : ∃ i, i = l[k - 1] := ⟨_, rfl⟩
        have hg : l.getD (k - 1) default = i := by rw [hi]; simp [List.getD, hkl]
        rw [← hi] at h0'
        have HX' : Hid (chk2 l = if i.op ≠ 0 ∧ i.op ≠ 15 then (2, k - 1) else (0, 0)) := Lib.hid (by rw [HX.out, hg])
        have d0 : wr.cell? ⟨b, o + (k - 1) * 4, none⟩ = some (.int .u8 i.op) := (HB.out.cell (p := ⟨b, _, none⟩) hb).trans h0'
        obtain ⟨op, hop⟩ : ∃ op, op = i.op := ⟨_, rfl⟩
        rw [← hop] at d0 HX'
        obtain ⟨k1, hk1⟩ : ∃ k1, k1 = k - 1 := ⟨_, rfl⟩
        obtain rfl : k = k1 + 1 := by omega
        have ek : k1 + 1 - 1 = k1 := by omega
        rw [ek] at d0 HX'
        clear hfn HT hlt h0' h1x h2x h3x hfit hi hg hop hb hkl hk1 ek HX HC HCN HR
        have e1 : IntKind.i64.wrap (((k1 + 1 : Nat) : Int) - 1) = (k1 : Int) := by rw [IntKind.wrap_i64]; omega
        have e2 : ((k1 + 1 : Nat) : Int) - 1 = (k1 : Int) := by omega
        have hkk : (k1 : Int) < ((k1 + 1 : Nat) : Int) := by omega
        rcases (by omega : op = 0 ∨ (op ≠ 0 ∧ op = 15) ∨ (op ≠ 0 ∧ op ≠ 15)) with rfl | ⟨h2, rfl⟩ | ⟨h2, h3⟩
        · have hc : Hid (chk2 l = (0, 0)) := Lib.hid (by rw [HX'.out, if_neg (by simp)])
          clear HX'
          go_wp2
          go_ret2
          exact ⟨by rw [hc.out]; rfl, HB.out⟩
        · have hc : Hid (chk2 l = (0, 0)) := Lib.hid (by rw [HX'.out, if_neg (by simp)])
          clear HX' h2
          go_wp2
          go_ret2
          exact ⟨by rw [hc.out]; rfl, HB.out⟩
        · have hc : Hid (chk2 l = (2, k1)) := Lib.hid (by rw [HX'.out, if_pos ⟨h2, h3⟩])
          have hb0 : ((op : Int) != 0) = true := by simpa using h2
          have hb15 : ((op : Int) != 15) = true := by simp; omega
          clear HX' h2 h3
          go_wp2
          go_ret2
          exact ⟨by rw [hc.out]; rfl, HB.out⟩
end Go.Proofs.YtlecpekgnlaneaaDoor
