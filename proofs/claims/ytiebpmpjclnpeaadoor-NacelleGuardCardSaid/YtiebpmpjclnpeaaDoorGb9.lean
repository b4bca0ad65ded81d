/- Bundle 9 of the texts REnd2, RDer, Conv, MonoB, SliceB. -/
import Derived.Test.YtiebpmpjclnpeaaDoorGb8
import Derived.Test.YtiebpmpjclnpeaaDoorGb1
import Derived.Laws.BytesArg
/- ends: the places of a text to which a body's texts lead. -/
namespace Nac.Gram
/-- from a place ahead of A, of those that are marked, the sign leads to j -/
def NextR (is : Nat → Nat → Nat → Bool) (s : List Nat) (v : List Bool) (x : Sgn) (A j : Nat) : Prop := ∃ a, a < A ∧ v.getD a false = true ∧ EndsR is s [x] a j
section
variable {is : Nat → Nat → Nat → Bool} {s : List Nat} {v : List Bool} {x : Sgn} {A j : Nat}
theorem NextR.zero : ¬ NextR is s v x 0 j := fun ⟨_, h, _⟩ => absurd h (Nat.not_lt_zero _)
theorem NextR.succ : NextR is s v x (A + 1) j ↔ NextR is s v x A j ∨ (v.getD A false = true ∧ EndsR is s [x] A j) := by
  constructor
  · rintro ⟨a, h1, h2, h3⟩
    rcases Nat.lt_or_ge a A with h | h
    · exact .inl ⟨a, h, h2, h3⟩
    · obtain rfl : a = A := by omega
      exact .inr ⟨h2, h3⟩
  · rintro (⟨a, h1, h2, h3⟩ | ⟨h2, h3⟩)
    · exact ⟨a, by omega, h2, h3⟩
    · exact ⟨A, by omega, h2, h3⟩
theorem ends_byte (hn : x.name < 0) : EndsR is s [x] A j ↔ (∃ h : A < s.length, x.low ≤ s[A] ∧ s[A] ≤ x.high) ∧ A + 1 = j := by
  show (if x.name < 0 then _ else _) ↔ _
  rw [if_pos hn]
  rfl
theorem ends_name (hn : ¬ x.name < 0) : EndsR is s [x] A j ↔ A ≤ j ∧ j ≤ s.length ∧ is x.name.toNat A j = true := by
  show (if x.name < 0 then _ else _) ↔ _
  rw [if_neg hn]
  constructor
  · rintro ⟨b, h1, h2, h3, h4⟩
    have h4 : b = j := h4
    subst h4
    exact ⟨h1, h2, h3⟩
  · rintro ⟨h1, h2, h3⟩
    exact ⟨j, h1, h2, h3, rfl⟩
theorem getD_setT {l : List Bool} {n m : Nat} (h : n < l.length) : (l.set n true).getD m false = true ↔ m = n ∨ l.getD m false = true := by
  rw [getD_setB]
  by_cases e : n = m
  · subst e; simp [h]
  · rw [if_neg (fun hh => e hh.1)]
    constructor
    · exact .inr
    · rintro (h | h)
      · exact absurd h.symm e
      · exact h
end
end Nac.Gram
namespace Go.Proofs.YtiebpmpjclnpeaaDoor
open Go.RowKit Nac Nac.Gram
theorem bcs_get {l : List Bool} {k : Nat} (h : k < l.length) : (bcs l)[k]? = some (.bool (l.getD k false)) := by
  unfold bcs
  rw [List.getElem?_map, List.getElem?_eq_getElem h, List.getD_eq_getElem?_getD, List.getElem?_eq_getElem h]
  rfl
theorem bcs_len (l : List Bool) : (bcs l).length = l.length := by simp [bcs]
theorem bcs_false (n : Nat) : List.replicate n (Value.bool false) = bcs (List.replicate n false) := by simp [bcs]
theorem getD_false (n j : Nat) : (List.replicate n false).getD j false = false := by
  rw [List.getD_eq_getElem?_getD, List.getElem?_replicate]
  split <;> rfl
def RetEnds (w : World) (is : Nat → Nat → Nat → Bool) (s : List Nat) (l : List Sgn) (i n : Nat) (e : Ending) (w' : World) : Prop :=
  ∃ g v, e = .returned (.slice (some ⟨g, 0, none⟩) n n) ∧ v.length = n ∧ Blk w' g (bcs v) ∧ (∀ j, j < n → (v.getD j false = true ↔ EndsR is s l i j)) ∧ w.heap.size ≤ g ∧ Below w.heap.size w w'
set_option maxRecDepth 100000 in
set_option maxHeartbeats 4000000 in
theorem ends_calls (w : World) (G N n : Nat) (is : Nat → Nat → Nat → Bool) (A A1 : Option Addr) (c c1 : Nat) (l : List Sgn) (s : List UInt8) (i : Nat) (hD : IsD w G N n is) (hl : RS w w.heap.size A l) (hs : RB w w.heap.size A1 s) (hn : n = s.length + 1) (h10 : s.length ≤ 10) (hl8 : l.length ≤ 8) (hi : i ≤ s.length)
    (hnm : ∀ x ∈ l, x.name < N) :
    Calls Tryd.prog 32 #[.slice A l.length c, .slice A1 s.length c1, .int .i64 (i : Int), .slice (some ⟨G, 0, none⟩) N N] w (RetEnds w is (byts s) l i n) := by
  have HD := Lib.hid hD
  have HS := Lib.hid hs
  have HLS := Lib.hid hl
  have HNM := Lib.hid hnm
  obtain ⟨tl, htl⟩ : ∃ tl, tl = s.length := ⟨_, rfl⟩
  obtain ⟨L, hL⟩ : ∃ L, L = l.length := ⟨_, rfl⟩
  have HTL : Hid (tl = s.length ∧ tl = (byts s).length) := Lib.hid ⟨htl, by rw [htl]; simp [byts]⟩
  have HL := Lib.hid hL
  have HN : Hid (n = tl + 1 ∧ i ≤ tl) := Lib.hid (by omega)
  rw [← htl, ← hL]
  have hn11 : n ≤ 11 := by omega
  have hin : i < n := by omega
  have hL8 : L ≤ 8 := by omega
  have q0 : IntKind.i64.wrap ((tl : Int) + 1) = (n : Int) := by rw [IntKind.wrap_i64]; omega
  clear hD hl hs hnm htl hL hn h10 hl8 hi
  go_enter Tryd.func32, Tryd.ntmps32
  go_wp2_with (first
    | ((with_reducible show wpList _ _ _ (Oper.mk _ (Op.makeSlice _ _ _) _ _ _ _ :: _) _ _); refine wpList_make1 uBol1 infoBool rfl (by decide) rfl _ _ rfl n (by omega) rfl rfl ?_)
    | fail)
  intro w1 hb1 hg1 hs1
  obtain ⟨g0, hg0⟩ : ∃ g, g = w.heap.size := ⟨_, rfl⟩
  rw [← hg0] at hb1 ⊢
  have HB1 : Hid (Blk w1 g0 (bcs (List.replicate n false))) := Lib.hid (by rw [← bcs_false]; exact hb1)
  have HW1 : Hid (Below w.heap.size w w1 ∧ w.heap.size ≤ g0) := Lib.hid ⟨grown_below hg1 (Nat.le_refl _) (fun k e => by cases e), by omega⟩
  clear hb1 hg1 hs1 hg0
  go_wp2_with (first
    | ((with_reducible show wpList _ _ _ (Oper.mk _ (Op.store 4 _ _) _ _ _ _ :: _) _ _); refine wpList_storeB rfl 4 _ _ rfl g0 i _ (.bool true) rfl rfl HB1.out (by rw [bcs_len, List.length_replicate]; exact hin) s1Bl rfl ?_)
    | fail)
  intro w2 hb2 hg2
  have HB2 : Hid (Blk w2 g0 (bcs ((List.replicate n false).set i true))) := Lib.hid (by rw [← bcs_set]; exact hb2)
  have HW2 : Hid (Below w.heap.size w w2) := Lib.hid (below_trans HW1.out.1 (grown_below hg2 HW1.out.1.size fun k e => by injection e with e; have := HW1.out.2; omega))
  have HG0 : Hid (w.heap.size ≤ g0) := Lib.hid HW1.out.2
  have HIN := Lib.hid hin
  clear hb2 hg2 HB1 HW1
  go_wp2
  go_loopw [9, 10] (fun s9 s10 wr => ∃ (k g : Nat) (v : List Bool), k ≤ L ∧ s10 = .int .i64 (k : Int) ∧ s9 = .slice (some ⟨g, 0, none⟩) n n ∧ v.length = n ∧ Blk wr g (bcs v) ∧ w.heap.size ≤ g ∧ (∀ j, j < n → (v.getD j false = true ↔ EndsR is (byts s) (l.take k) i j)) ∧ Below w.heap.size w wr) (fun _ s10 _ => L - (intOf s10).toNat)
  case atStart =>
    refine ⟨0, g0, _, Nat.zero_le _, rfl, rfl, by simp, HB2.out, HG0.out, fun j hj => ?_, HW2.out⟩
    rw [getD_setT (by rw [List.length_replicate]; exact HIN.out), getD_false]
    show _ ↔ i = j
    constructor
    · rintro (h | h)
      · exact h.symm
      · cases h
    · intro h; exact .inl h.symm
  case round =>
    obtain ⟨k, g, v, hk, rfl, rfl, hvl, hbv, hgB, hve, hbw⟩ := hrel
    obtain ⟨wk, rfl⟩ : ∃ wk, wk = wr := ⟨_, rfl⟩
    have HVL := Lib.hid hvl
    have HBV := Lib.hid hbv
    have HGB := Lib.hid hgB
    have HVE := Lib.hid hve
    have HBW := Lib.hid hbw
    clear hvl hbv hgB hve hbw HB2 HW2 HG0
    by_cases hkL : k < L
    · have hkl : k < l.length := by rw [← HL.out]; exact hkL
      obtain ⟨g3, k3, hA3, hg3, hg3s, hrow⟩ := HLS.out (by rintro rfl; simp at hkl)
      subst hA3
      obtain ⟨x, hx⟩ : ∃ x, x = l[k] := ⟨_, rfl⟩
      have HXM : Hid (x ∈ l ∧ l.take (k + 1) = l.take k ++ [x]) := Lib.hid ⟨by rw [hx]; exact List.getElem_mem hkl, by rw [hx, List.take_succ_eq_append_getElem hkl]⟩
      have HROW : Hid (w.rangeAt g3 (k3 + k * 3) (sgv x) ∧ g3 < w.heap.size) := Lib.hid ⟨by rw [hx]; exact hrow k hkl, hg3s⟩
      clear hx hkl hg3 hg3s hrow
      go_wp2_with (first
        | ((with_reducible show wpList _ _ _ (Oper.mk _ (Op.makeSlice _ _ _) _ _ _ _ :: _) _ _); refine wpList_make1 uBol1 infoBool rfl (by decide) rfl _ _ rfl n (by omega) rfl rfl ?_)
        | fail)
      intro w3 hb3 hg3' hs3
      obtain ⟨gu, hgu⟩ : ∃ g, g = wk.heap.size := ⟨_, rfl⟩
      rw [← hgu] at hb3 ⊢
      have HB3 : Hid (Blk w3 gu (bcs (List.replicate n false))) := Lib.hid (by rw [← bcs_false]; exact hb3)
      have HGU : Hid (w.heap.size ≤ gu ∧ g ≠ gu) := Lib.hid (by have := HBW.out.size; have := HBV.out.lt; omega)
      have HW3 : Hid (Below w.heap.size w w3) := Lib.hid (below_trans HBW.out (grown_below hg3' HBW.out.size (fun k e => by cases e)))
      have HBV3 : Hid (Blk w3 g (bcs v)) := Lib.hid (HBV.out.grown hg3' (fun e => by cases e))
      clear hb3 hg3' hs3 hgu
      go_wp2
      go_loopw [12] (fun s12 wr => ∃ (a : Nat) (u : List Bool), a ≤ n ∧ s12 = .int .i64 (a : Int) ∧ u.length = n ∧ Blk wr gu (bcs u) ∧ (∀ j, j < n → (u.getD j false = true ↔ NextR is (byts s) v x a j)) ∧ w3.grownBy wr (some gu)) (fun s12 _ => n - (intOf s12).toNat)
      case atStart =>
        refine ⟨0, _, Nat.zero_le _, rfl, by simp, HB3.out, fun j hj => ?_, World.grownBy.refl _ _⟩
        rw [getD_false]
        exact ⟨fun h => (by cases h), fun h => absurd h NextR.zero⟩
      case round =>
        obtain ⟨a, u, ha, rfl, hul, hbu, hue, hgr⟩ := hrel
        have HUL := Lib.hid hul
        have HBU := Lib.hid hbu
        have HUE := Lib.hid hue
        have HGR := Lib.hid hgr
        have HWr : Hid (Below w.heap.size w wr) := Lib.hid ⟨hgr.os.trans HW3.out.os, hgr.tape.trans HW3.out.tape, hgr.output.trans HW3.out.output, Nat.le_trans HW3.out.size hgr.size, fun k hk => (hgr.block k (Nat.lt_of_lt_of_le hk HW3.out.size) (fun e => by injection e with e; have := HGU.out; omega)).trans (HW3.out.block k hk)⟩
        have HBVr : Hid (Blk wr g (bcs v)) := Lib.hid (HBV3.out.grown hgr (fun e => by injection e with e; exact HGU.out.2 e.symm))
        clear hul hbu hue hgr HB3
        by_cases hat : a ≤ tl
        · have han : a < n := by have := HN.out; omega
          obtain ⟨va, hva⟩ : ∃ va, va = v.getD a false := ⟨_, rfl⟩
          have HVA := Lib.hid hva
          have hcv : wr.cell? ⟨g, a, none⟩ = some (.bool va) := HBVr.out.cell (by rw [hva]; exact bcs_get (by rw [HVL.out]; exact han))
          clear hva
          cases va with
          | false =>
            have HNX : Hid (∀ j, j < n → (u.getD j false = true ↔ NextR is (byts s) v x (a + 1) j)) := Lib.hid fun j hj => by
              rw [NextR.succ, ← HVA.out, HUE.out j hj]
              exact ⟨.inl, fun h => h.elim id fun h => by cases h.1⟩
            go_wp2
            clear hcv
            go_roundw
            case rel => exact ⟨a + 1, u, by omega, by go_num, HUL.out, HBU.out, HNX.out, HGR.out⟩
            case measure => simp [intOf]; omega
          | true =>
            obtain ⟨nm, hnmx⟩ : ∃ nm, nm = x.name := ⟨_, rfl⟩
            have HNX := Lib.hid hnmx
            have hcn : wr.cell? ⟨g3, k3 + k * 3, none⟩ = some (.int .i64 nm) := (range_below HROW.out.1 HWr.out HROW.out.2) 0 _ (by rw [hnmx]; rfl)
            have htlc := hat
            clear hnmx hat
            by_cases hneg : nm < 0
            · obtain ⟨lo, hlo⟩ : ∃ lo, lo = x.low := ⟨_, rfl⟩
              obtain ⟨hi, hhi⟩ : ∃ hi, hi = x.high := ⟨_, rfl⟩
              have HXL : Hid (lo = x.low ∧ hi = x.high ∧ x.name < 0) := Lib.hid ⟨hlo, hhi, by rw [← HNX.out]; exact hneg⟩
              have ML : Hid (∀ w', Below wr.heap.size wr w' → w'.cell? ⟨g3, k3 + k * 3 + 1, none⟩ = some (.int .u8 (lo : Int))) := Lib.hid fun w' hb => (range_below HROW.out.1 (below_trans HWr.out (hb.mono HWr.out.size)) HROW.out.2) 1 _ (by rw [hlo]; rfl)
              have MH : Hid (∀ w', Below wr.heap.size wr w' → w'.cell? ⟨g3, k3 + k * 3 + 2, none⟩ = some (.int .u8 (hi : Int))) := Lib.hid fun w' hb => (range_below HROW.out.1 (below_trans HWr.out (hb.mono HWr.out.size)) HROW.out.2) 2 _ (by rw [hhi]; rfl)
              have QK : Hid (k < L) := Lib.hid hkL
              clear hlo hhi
              by_cases hal : a < tl
              · have hals : a < s.length := by rw [← HTL.out.1]; exact hal
                obtain ⟨g1, o1, hA1, hg1, hcb⟩ := HS.out (by rintro rfl; simp at hals)
                subst hA1
                obtain ⟨ch, hch⟩ : ∃ ch, ch = s[a].toNat := ⟨_, rfl⟩
                have HSA : Hid (∃ h : a < (byts s).length, (byts s)[a] = ch) := Lib.hid ⟨by rw [← HTL.out.2]; exact hal, by rw [hch]; simp [byts]⟩
                have hcb0 : w.cell? ⟨g1, o1 + a, none⟩ = some (.int .u8 (ch : Int)) := by rw [hch]; exact hcb a hals
                have NC : Hid (∀ w', Below wr.heap.size wr w' → w'.cell? ⟨g1, o1 + a, none⟩ = some (.int .u8 (ch : Int))) := Lib.hid fun w' hb => by
                  rw [(below_trans HWr.out (hb.mono HWr.out.size)).cell (p := ⟨g1, o1 + a, none⟩) hg1]
                  exact hcb0
                have QE : Hid (a < tl) := Lib.hid hal
                have han1 : a + 1 < n := by have := HN.out; omega
                clear hch hcb hcb0 hals
                by_cases q1 : ch < lo
                · have Q1 : Hid (ch < lo) := Lib.hid q1
                  have HNT : Hid (∀ j, j < n → (u.getD j false = true ↔ NextR is (byts s) v x (a + 1) j)) := Lib.hid fun j hj => by
                    rw [NextR.succ, HUE.out j hj, ends_byte HXL.out.2.2]
                    refine ⟨.inl, fun h => h.elim id fun h => ?_⟩
                    obtain ⟨_, ⟨h1, h2, _⟩, _⟩ := h
                    obtain ⟨_, he⟩ := HSA.out
                    have := Q1.out
                    have := HXL.out.1
                    omega
                  clear q1 hal
                  go_wp2_with fail
                  clear hcv hcn
                  refine region_vals [.int .i64 (a : Int), .slice (some ⟨g1, o1, none⟩) tl c1, .int .i64 (tl : Int), .bool true, .bool true, .slice (some ⟨g1, o1, none⟩) tl c1, .int .i64 (a : Int), .pointer (some ⟨g1, o1 + a, none⟩), .int .u8 (ch : Int), .slice (some ⟨g3, k3, none⟩) L c, .int .i64 (k : Int), .pointer (some ⟨g3, k3 + k * 3, none⟩), .pointer (some ⟨g3, k3 + k * 3 + 1, none⟩), .int .u8 (lo : Int), .bool false, .bool false, .bool false, undef, undef, undef, undef, undef, undef, undef, undef, undef, undef, .bool false] [some 48, some 49, some 50, some 51, some 52, some 53, some 54, some 55, some 56, some 57, some 58, some 59, some 60, some 61, some 62, some 63, some 64, some 65, some 66, some 67, some 68, some 69, some 70, some 71, some 72, some 73, some 74, some 75] (fun _ w' => Below wr.heap.size wr w') (by kernel_rfl) (by kernel_rfl) (by kernel_rfl) rfl rfl (Below.refl _ _).drew (fun ii hii => ?_) ?_
                  · match ii, hii with
                    | 0, _ => exact vstep_first rfl (vwant_none rfl) (fun _ _ h => h) 12 (Or.inl rfl) (by kernel_rfl) rfl
                    | 1, _ => exact vstep_first rfl (vwant_none rfl) (fun _ _ h => h) 1 (Or.inl rfl) (by kernel_rfl) rfl
                    | 2, _ => exact vstep_pure rfl (vwant_none rfl) (fun _ _ h => h) (fun LL aa ww cc => ⟨.int .i64 (tl : Int), by have e0 : aa.tmps.getD 49 undef = .slice (some ⟨g1, o1, none⟩) tl c1 := cc.slot 1 49 (by kernel_rfl) rfl; simp only [execOp, Act.eval, e0]; go_simp, rfl⟩)
                    | 3, _ => exact vstep_pure rfl (vwant_none rfl) (fun _ _ h => h) (fun LL aa ww cc => ⟨.bool true, by have e0 : aa.tmps.getD 48 undef = .int .i64 (a : Int) := cc.slot 0 48 (by kernel_rfl) rfl; have e1 : aa.tmps.getD 50 undef = .int .i64 (tl : Int) := cc.slot 2 50 (by kernel_rfl) rfl; have q := QE.out; simp only [execOp, Act.eval, e0, e1]; go_simp, rfl⟩)
                    | 4, _ => exact vstep_copy rfl (vwant_none rfl) (fun _ _ h => h) 51 (Or.inl rfl) 3 (by kernel_rfl) rfl (fun _ h => h)
                    | 5, _ => exact vstep_first rfl (vwant 4 true 52 rfl (by kernel_rfl) rfl (fun _ h => h) (by kernel_rfl)) (fun _ _ h => h) 1 (Or.inl rfl) (by kernel_rfl) rfl
                    | 6, _ => exact vstep_first rfl (vwant 4 true 52 rfl (by kernel_rfl) rfl (fun _ h => h) (by kernel_rfl)) (fun _ _ h => h) 12 (Or.inl rfl) (by kernel_rfl) rfl
                    | 7, _ => exact vstep_pure rfl (vwant 4 true 52 rfl (by kernel_rfl) rfl (fun _ h => h) (by kernel_rfl)) (fun _ _ h => h) (fun LL aa ww cc => ⟨.pointer (some ⟨g1, o1 + a, none⟩), by have e0 : aa.tmps.getD 53 undef = .slice (some ⟨g1, o1, none⟩) tl c1 := cc.slot 5 53 (by kernel_rfl) rfl; have e1 : aa.tmps.getD 54 undef = .int .i64 (a : Int) := cc.slot 6 54 (by kernel_rfl) rfl; have q := QE.out; simp only [execOp, Act.eval, e0, e1]; go_simp, rfl⟩)
                    | 8, _ => exact vstep_pure rfl (vwant 4 true 52 rfl (by kernel_rfl) rfl (fun _ h => h) (by kernel_rfl)) (fun _ _ h => h) (fun LL aa ww cc => ⟨.int .u8 (ch : Int), by have e0 : aa.tmps.getD 55 undef = .pointer (some ⟨g1, o1 + a, none⟩) := cc.slot 7 55 (by kernel_rfl) rfl; have q := NC.out _ cc.world; simp only [execOp, Act.eval, e0]; go_simp, rfl⟩)
                    | 9, _ => exact vstep_first rfl (vwant 4 true 52 rfl (by kernel_rfl) rfl (fun _ h => h) (by kernel_rfl)) (fun _ _ h => h) 0 (Or.inl rfl) (by kernel_rfl) rfl
                    | 10, _ => exact vstep_first rfl (vwant 4 true 52 rfl (by kernel_rfl) rfl (fun _ h => h) (by kernel_rfl)) (fun _ _ h => h) 10 (Or.inl rfl) (by kernel_rfl) rfl
                    | 11, _ => exact vstep_pure rfl (vwant 4 true 52 rfl (by kernel_rfl) rfl (fun _ h => h) (by kernel_rfl)) (fun _ _ h => h) (fun LL aa ww cc => ⟨.pointer (some ⟨g3, k3 + k * 3, none⟩), by have e0 : aa.tmps.getD 57 undef = .slice (some ⟨g3, k3, none⟩) L c := cc.slot 9 57 (by kernel_rfl) rfl; have e1 : aa.tmps.getD 58 undef = .int .i64 (k : Int) := cc.slot 10 58 (by kernel_rfl) rfl; have q := QK.out; simp only [execOp, Act.eval, e0, e1]; go_simp, rfl⟩)
                    | 12, _ => exact vstep_pure rfl (vwant 4 true 52 rfl (by kernel_rfl) rfl (fun _ h => h) (by kernel_rfl)) (fun _ _ h => h) (fun LL aa ww cc => ⟨.pointer (some ⟨g3, k3 + k * 3 + 1, none⟩), by have e0 : aa.tmps.getD 59 undef = .pointer (some ⟨g3, k3 + k * 3, none⟩) := cc.slot 11 59 (by kernel_rfl) rfl; simp only [execOp, Act.eval, e0]; go_simp, rfl⟩)
                    | 13, _ => exact vstep_pure rfl (vwant 4 true 52 rfl (by kernel_rfl) rfl (fun _ h => h) (by kernel_rfl)) (fun _ _ h => h) (fun LL aa ww cc => ⟨.int .u8 (lo : Int), by have e0 : aa.tmps.getD 60 undef = .pointer (some ⟨g3, k3 + k * 3 + 1, none⟩) := cc.slot 12 60 (by kernel_rfl) rfl; have q := ML.out _ cc.world; simp only [execOp, Act.eval, e0]; go_simp, rfl⟩)
                    | 14, _ => exact vstep_pure rfl (vwant 4 true 52 rfl (by kernel_rfl) rfl (fun _ h => h) (by kernel_rfl)) (fun _ _ h => h) (fun LL aa ww cc => ⟨.bool false, by have e0 : aa.tmps.getD 56 undef = .int .u8 (ch : Int) := cc.slot 8 56 (by kernel_rfl) rfl; have e1 : aa.tmps.getD 61 undef = .int .u8 (lo : Int) := cc.slot 13 61 (by kernel_rfl) rfl; have q := Q1.out; simp only [execOp, Act.eval, e0, e1]; go_simp, rfl⟩)
                    | 15, _ => exact vstep_pure rfl (vwant_none rfl) (fun _ _ h => h) (fun LL aa ww cc => ⟨.bool false, by have e0 : aa.tmps.getD 52 undef = .bool true := cc.slot 4 52 (by kernel_rfl) rfl; have e1 : aa.tmps.getD 62 undef = .bool false := cc.slot 14 62 (by kernel_rfl) rfl; simp only [execOp, Act.eval, e0, e1]; go_simp, rfl⟩)
                    | 16, _ => exact vstep_copy rfl (vwant_none rfl) (fun _ _ h => h) 63 (Or.inl rfl) 15 (by kernel_rfl) rfl (fun _ h => h)
                    | 17, _ => exact vstep_unwanted rfl 16 true 64 rfl (by kernel_rfl) rfl (fun _ h => Or.inl h) (by kernel_rfl) rfl (fun _ _ h => h)
                    | 18, _ => exact vstep_unwanted rfl 16 true 64 rfl (by kernel_rfl) rfl (fun _ h => Or.inl h) (by kernel_rfl) rfl (fun _ _ h => h)
                    | 19, _ => exact vstep_unwanted rfl 16 true 64 rfl (by kernel_rfl) rfl (fun _ h => Or.inl h) (by kernel_rfl) rfl (fun _ _ h => h)
                    | 20, _ => exact vstep_unwanted rfl 16 true 64 rfl (by kernel_rfl) rfl (fun _ h => Or.inl h) (by kernel_rfl) rfl (fun _ _ h => h)
                    | 21, _ => exact vstep_unwanted rfl 16 true 64 rfl (by kernel_rfl) rfl (fun _ h => Or.inl h) (by kernel_rfl) rfl (fun _ _ h => h)
                    | 22, _ => exact vstep_unwanted rfl 16 true 64 rfl (by kernel_rfl) rfl (fun _ h => Or.inl h) (by kernel_rfl) rfl (fun _ _ h => h)
                    | 23, _ => exact vstep_unwanted rfl 16 true 64 rfl (by kernel_rfl) rfl (fun _ h => Or.inl h) (by kernel_rfl) rfl (fun _ _ h => h)
                    | 24, _ => exact vstep_unwanted rfl 16 true 64 rfl (by kernel_rfl) rfl (fun _ h => Or.inl h) (by kernel_rfl) rfl (fun _ _ h => h)
                    | 25, _ => exact vstep_unwanted rfl 16 true 64 rfl (by kernel_rfl) rfl (fun _ h => Or.inl h) (by kernel_rfl) rfl (fun _ _ h => h)
                    | 26, _ => exact vstep_unwanted rfl 16 true 64 rfl (by kernel_rfl) rfl (fun _ h => Or.inl h) (by kernel_rfl) rfl (fun _ _ h => h)
                    | 27, _ => exact vstep_pure rfl (vwant_none rfl) (fun _ _ h => h) (fun LL aa ww cc => ⟨.bool false, by have e0 : aa.tmps.getD 64 undef = .bool false := cc.slot 16 64 (by kernel_rfl) rfl; simp only [execOp, Act.eval, e0]; go_simp, rfl⟩)
                    | n + 28, h => exact absurd h (by show ¬ (n + 28 < 28); omega)
                  · intro L9 w6 _ hj6
                    have HG6 : Hid (w3.grownBy w6 (some gu)) := Lib.hid (HGR.out.trans (grownBy_below hj6 (Nat.le_refl _)))
                    have HB6 : Hid (Blk w6 gu (bcs u)) := Lib.hid (HBU.out.below hj6 HBU.out.lt)
                    clear hj6 NC ML MH
                    refine (by assumption : ∀ (a : Act) (w : World), Code.wp _ _ _ a w → _) _ _ ?_
                    simp only [List.zip_cons_cons, List.zip_nil_right, putsL]
                    go_simp
                    go_wp2
                    go_roundw
                    case rel => exact ⟨a + 1, u, by omega, by go_num, HUL.out, HB6.out, HNT.out, HG6.out⟩
                    case measure => simp [intOf]; omega
                have Q1 : Hid (¬ ch < lo) := Lib.hid q1
                clear q1
                by_cases q2 : hi < ch
                · have Q2 : Hid (hi < ch) := Lib.hid q2
                  have HNT : Hid (∀ j, j < n → (u.getD j false = true ↔ NextR is (byts s) v x (a + 1) j)) := Lib.hid fun j hj => by
                    rw [NextR.succ, HUE.out j hj, ends_byte HXL.out.2.2]
                    refine ⟨.inl, fun h => h.elim id fun h => ?_⟩
                    obtain ⟨_, ⟨h1, _, h2⟩, _⟩ := h
                    obtain ⟨_, he⟩ := HSA.out
                    have := Q2.out
                    have := HXL.out.2.1
                    omega
                  clear q2 hal
                  go_wp2_with fail
                  clear hcv hcn
                  refine region_vals [.int .i64 (a : Int), .slice (some ⟨g1, o1, none⟩) tl c1, .int .i64 (tl : Int), .bool true, .bool true, .slice (some ⟨g1, o1, none⟩) tl c1, .int .i64 (a : Int), .pointer (some ⟨g1, o1 + a, none⟩), .int .u8 (ch : Int), .slice (some ⟨g3, k3, none⟩) L c, .int .i64 (k : Int), .pointer (some ⟨g3, k3 + k * 3, none⟩), .pointer (some ⟨g3, k3 + k * 3 + 1, none⟩), .int .u8 (lo : Int), .bool true, .bool true, .bool true, .slice (some ⟨g1, o1, none⟩) tl c1, .int .i64 (a : Int), .pointer (some ⟨g1, o1 + a, none⟩), .int .u8 (ch : Int), .slice (some ⟨g3, k3, none⟩) L c, .int .i64 (k : Int), .pointer (some ⟨g3, k3 + k * 3, none⟩), .pointer (some ⟨g3, k3 + k * 3 + 2, none⟩), .int .u8 (hi : Int), .bool false, .bool false] [some 48, some 49, some 50, some 51, some 52, some 53, some 54, some 55, some 56, some 57, some 58, some 59, some 60, some 61, some 62, some 63, some 64, some 65, some 66, some 67, some 68, some 69, some 70, some 71, some 72, some 73, some 74, some 75] (fun _ w' => Below wr.heap.size wr w') (by kernel_rfl) (by kernel_rfl) (by kernel_rfl) rfl rfl (Below.refl _ _).drew (fun ii hii => ?_) ?_
                  · match ii, hii with
                    | 0, _ => exact vstep_first rfl (vwant_none rfl) (fun _ _ h => h) 12 (Or.inl rfl) (by kernel_rfl) rfl
                    | 1, _ => exact vstep_first rfl (vwant_none rfl) (fun _ _ h => h) 1 (Or.inl rfl) (by kernel_rfl) rfl
                    | 2, _ => exact vstep_pure rfl (vwant_none rfl) (fun _ _ h => h) (fun LL aa ww cc => ⟨.int .i64 (tl : Int), by have e0 : aa.tmps.getD 49 undef = .slice (some ⟨g1, o1, none⟩) tl c1 := cc.slot 1 49 (by kernel_rfl) rfl; simp only [execOp, Act.eval, e0]; go_simp, rfl⟩)
                    | 3, _ => exact vstep_pure rfl (vwant_none rfl) (fun _ _ h => h) (fun LL aa ww cc => ⟨.bool true, by have e0 : aa.tmps.getD 48 undef = .int .i64 (a : Int) := cc.slot 0 48 (by kernel_rfl) rfl; have e1 : aa.tmps.getD 50 undef = .int .i64 (tl : Int) := cc.slot 2 50 (by kernel_rfl) rfl; have q := QE.out; simp only [execOp, Act.eval, e0, e1]; go_simp, rfl⟩)
                    | 4, _ => exact vstep_copy rfl (vwant_none rfl) (fun _ _ h => h) 51 (Or.inl rfl) 3 (by kernel_rfl) rfl (fun _ h => h)
                    | 5, _ => exact vstep_first rfl (vwant 4 true 52 rfl (by kernel_rfl) rfl (fun _ h => h) (by kernel_rfl)) (fun _ _ h => h) 1 (Or.inl rfl) (by kernel_rfl) rfl
                    | 6, _ => exact vstep_first rfl (vwant 4 true 52 rfl (by kernel_rfl) rfl (fun _ h => h) (by kernel_rfl)) (fun _ _ h => h) 12 (Or.inl rfl) (by kernel_rfl) rfl
                    | 7, _ => exact vstep_pure rfl (vwant 4 true 52 rfl (by kernel_rfl) rfl (fun _ h => h) (by kernel_rfl)) (fun _ _ h => h) (fun LL aa ww cc => ⟨.pointer (some ⟨g1, o1 + a, none⟩), by have e0 : aa.tmps.getD 53 undef = .slice (some ⟨g1, o1, none⟩) tl c1 := cc.slot 5 53 (by kernel_rfl) rfl; have e1 : aa.tmps.getD 54 undef = .int .i64 (a : Int) := cc.slot 6 54 (by kernel_rfl) rfl; have q := QE.out; simp only [execOp, Act.eval, e0, e1]; go_simp, rfl⟩)
                    | 8, _ => exact vstep_pure rfl (vwant 4 true 52 rfl (by kernel_rfl) rfl (fun _ h => h) (by kernel_rfl)) (fun _ _ h => h) (fun LL aa ww cc => ⟨.int .u8 (ch : Int), by have e0 : aa.tmps.getD 55 undef = .pointer (some ⟨g1, o1 + a, none⟩) := cc.slot 7 55 (by kernel_rfl) rfl; have q := NC.out _ cc.world; simp only [execOp, Act.eval, e0]; go_simp, rfl⟩)
                    | 9, _ => exact vstep_first rfl (vwant 4 true 52 rfl (by kernel_rfl) rfl (fun _ h => h) (by kernel_rfl)) (fun _ _ h => h) 0 (Or.inl rfl) (by kernel_rfl) rfl
                    | 10, _ => exact vstep_first rfl (vwant 4 true 52 rfl (by kernel_rfl) rfl (fun _ h => h) (by kernel_rfl)) (fun _ _ h => h) 10 (Or.inl rfl) (by kernel_rfl) rfl
                    | 11, _ => exact vstep_pure rfl (vwant 4 true 52 rfl (by kernel_rfl) rfl (fun _ h => h) (by kernel_rfl)) (fun _ _ h => h) (fun LL aa ww cc => ⟨.pointer (some ⟨g3, k3 + k * 3, none⟩), by have e0 : aa.tmps.getD 57 undef = .slice (some ⟨g3, k3, none⟩) L c := cc.slot 9 57 (by kernel_rfl) rfl; have e1 : aa.tmps.getD 58 undef = .int .i64 (k : Int) := cc.slot 10 58 (by kernel_rfl) rfl; have q := QK.out; simp only [execOp, Act.eval, e0, e1]; go_simp, rfl⟩)
                    | 12, _ => exact vstep_pure rfl (vwant 4 true 52 rfl (by kernel_rfl) rfl (fun _ h => h) (by kernel_rfl)) (fun _ _ h => h) (fun LL aa ww cc => ⟨.pointer (some ⟨g3, k3 + k * 3 + 1, none⟩), by have e0 : aa.tmps.getD 59 undef = .pointer (some ⟨g3, k3 + k * 3, none⟩) := cc.slot 11 59 (by kernel_rfl) rfl; simp only [execOp, Act.eval, e0]; go_simp, rfl⟩)
                    | 13, _ => exact vstep_pure rfl (vwant 4 true 52 rfl (by kernel_rfl) rfl (fun _ h => h) (by kernel_rfl)) (fun _ _ h => h) (fun LL aa ww cc => ⟨.int .u8 (lo : Int), by have e0 : aa.tmps.getD 60 undef = .pointer (some ⟨g3, k3 + k * 3 + 1, none⟩) := cc.slot 12 60 (by kernel_rfl) rfl; have q := ML.out _ cc.world; simp only [execOp, Act.eval, e0]; go_simp, rfl⟩)
                    | 14, _ => exact vstep_pure rfl (vwant 4 true 52 rfl (by kernel_rfl) rfl (fun _ h => h) (by kernel_rfl)) (fun _ _ h => h) (fun LL aa ww cc => ⟨.bool true, by have e0 : aa.tmps.getD 56 undef = .int .u8 (ch : Int) := cc.slot 8 56 (by kernel_rfl) rfl; have e1 : aa.tmps.getD 61 undef = .int .u8 (lo : Int) := cc.slot 13 61 (by kernel_rfl) rfl; have q := Nat.not_lt.1 Q1.out; simp only [execOp, Act.eval, e0, e1]; go_simp, rfl⟩)
                    | 15, _ => exact vstep_pure rfl (vwant_none rfl) (fun _ _ h => h) (fun LL aa ww cc => ⟨.bool true, by have e0 : aa.tmps.getD 52 undef = .bool true := cc.slot 4 52 (by kernel_rfl) rfl; have e1 : aa.tmps.getD 62 undef = .bool true := cc.slot 14 62 (by kernel_rfl) rfl; simp only [execOp, Act.eval, e0, e1]; go_simp, rfl⟩)
                    | 16, _ => exact vstep_copy rfl (vwant_none rfl) (fun _ _ h => h) 63 (Or.inl rfl) 15 (by kernel_rfl) rfl (fun _ h => h)
                    | 17, _ => exact vstep_first rfl (vwant 16 true 64 rfl (by kernel_rfl) rfl (fun _ h => h) (by kernel_rfl)) (fun _ _ h => h) 1 (Or.inl rfl) (by kernel_rfl) rfl
                    | 18, _ => exact vstep_first rfl (vwant 16 true 64 rfl (by kernel_rfl) rfl (fun _ h => h) (by kernel_rfl)) (fun _ _ h => h) 12 (Or.inl rfl) (by kernel_rfl) rfl
                    | 19, _ => exact vstep_pure rfl (vwant 16 true 64 rfl (by kernel_rfl) rfl (fun _ h => h) (by kernel_rfl)) (fun _ _ h => h) (fun LL aa ww cc => ⟨.pointer (some ⟨g1, o1 + a, none⟩), by have e0 : aa.tmps.getD 65 undef = .slice (some ⟨g1, o1, none⟩) tl c1 := cc.slot 17 65 (by kernel_rfl) rfl; have e1 : aa.tmps.getD 66 undef = .int .i64 (a : Int) := cc.slot 18 66 (by kernel_rfl) rfl; have q := QE.out; simp only [execOp, Act.eval, e0, e1]; go_simp, rfl⟩)
                    | 20, _ => exact vstep_pure rfl (vwant 16 true 64 rfl (by kernel_rfl) rfl (fun _ h => h) (by kernel_rfl)) (fun _ _ h => h) (fun LL aa ww cc => ⟨.int .u8 (ch : Int), by have e0 : aa.tmps.getD 67 undef = .pointer (some ⟨g1, o1 + a, none⟩) := cc.slot 19 67 (by kernel_rfl) rfl; have q := NC.out _ cc.world; simp only [execOp, Act.eval, e0]; go_simp, rfl⟩)
                    | 21, _ => exact vstep_first rfl (vwant 16 true 64 rfl (by kernel_rfl) rfl (fun _ h => h) (by kernel_rfl)) (fun _ _ h => h) 0 (Or.inl rfl) (by kernel_rfl) rfl
                    | 22, _ => exact vstep_first rfl (vwant 16 true 64 rfl (by kernel_rfl) rfl (fun _ h => h) (by kernel_rfl)) (fun _ _ h => h) 10 (Or.inl rfl) (by kernel_rfl) rfl
                    | 23, _ => exact vstep_pure rfl (vwant 16 true 64 rfl (by kernel_rfl) rfl (fun _ h => h) (by kernel_rfl)) (fun _ _ h => h) (fun LL aa ww cc => ⟨.pointer (some ⟨g3, k3 + k * 3, none⟩), by have e0 : aa.tmps.getD 69 undef = .slice (some ⟨g3, k3, none⟩) L c := cc.slot 21 69 (by kernel_rfl) rfl; have e1 : aa.tmps.getD 70 undef = .int .i64 (k : Int) := cc.slot 22 70 (by kernel_rfl) rfl; have q := QK.out; simp only [execOp, Act.eval, e0, e1]; go_simp, rfl⟩)
                    | 24, _ => exact vstep_pure rfl (vwant 16 true 64 rfl (by kernel_rfl) rfl (fun _ h => h) (by kernel_rfl)) (fun _ _ h => h) (fun LL aa ww cc => ⟨.pointer (some ⟨g3, k3 + k * 3 + 2, none⟩), by have e0 : aa.tmps.getD 71 undef = .pointer (some ⟨g3, k3 + k * 3, none⟩) := cc.slot 23 71 (by kernel_rfl) rfl; simp only [execOp, Act.eval, e0]; go_simp, rfl⟩)
                    | 25, _ => exact vstep_pure rfl (vwant 16 true 64 rfl (by kernel_rfl) rfl (fun _ h => h) (by kernel_rfl)) (fun _ _ h => h) (fun LL aa ww cc => ⟨.int .u8 (hi : Int), by have e0 : aa.tmps.getD 72 undef = .pointer (some ⟨g3, k3 + k * 3 + 2, none⟩) := cc.slot 24 72 (by kernel_rfl) rfl; have q := MH.out _ cc.world; simp only [execOp, Act.eval, e0]; go_simp, rfl⟩)
                    | 26, _ => exact vstep_pure rfl (vwant 16 true 64 rfl (by kernel_rfl) rfl (fun _ h => h) (by kernel_rfl)) (fun _ _ h => h) (fun LL aa ww cc => ⟨.bool false, by have e0 : aa.tmps.getD 68 undef = .int .u8 (ch : Int) := cc.slot 20 68 (by kernel_rfl) rfl; have e1 : aa.tmps.getD 73 undef = .int .u8 (hi : Int) := cc.slot 25 73 (by kernel_rfl) rfl; have q := Q2.out; simp only [execOp, Act.eval, e0, e1]; go_simp, rfl⟩)
                    | 27, _ => exact vstep_pure rfl (vwant_none rfl) (fun _ _ h => h) (fun LL aa ww cc => ⟨.bool false, by have e0 : aa.tmps.getD 64 undef = .bool true := cc.slot 16 64 (by kernel_rfl) rfl; have e1 : aa.tmps.getD 74 undef = .bool false := cc.slot 26 74 (by kernel_rfl) rfl; simp only [execOp, Act.eval, e0, e1]; go_simp, rfl⟩)
                    | n + 28, h => exact absurd h (by show ¬ (n + 28 < 28); omega)
                  · intro L9 w6 _ hj6
                    have HG6 : Hid (w3.grownBy w6 (some gu)) := Lib.hid (HGR.out.trans (grownBy_below hj6 (Nat.le_refl _)))
                    have HB6 : Hid (Blk w6 gu (bcs u)) := Lib.hid (HBU.out.below hj6 HBU.out.lt)
                    clear hj6 NC ML MH
                    refine (by assumption : ∀ (a : Act) (w : World), Code.wp _ _ _ a w → _) _ _ ?_
                    simp only [List.zip_cons_cons, List.zip_nil_right, putsL]
                    go_simp
                    go_wp2
                    go_roundw
                    case rel => exact ⟨a + 1, u, by omega, by go_num, HUL.out, HB6.out, HNT.out, HG6.out⟩
                    case measure => simp [intOf]; omega
                have Q2 : Hid (¬ hi < ch) := Lib.hid q2
                have HNT : Hid (∀ j, j < n → ((u.set (a + 1) true).getD j false = true ↔ NextR is (byts s) v x (a + 1) j)) := Lib.hid fun j hj => by
                  rw [NextR.succ, getD_setT (by rw [HUL.out]; exact han1), HUE.out j hj, ends_byte HXL.out.2.2, ← HVA.out]
                  have hin : ∃ h : a < (byts s).length, x.low ≤ (byts s)[a] ∧ (byts s)[a] ≤ x.high := by
                    obtain ⟨h, he⟩ := HSA.out
                    have := Q1.out
                    have := Q2.out
                    have := HXL.out
                    exact ⟨h, by omega, by omega⟩
                  constructor
                  · rintro (h | h)
                    · exact .inr ⟨rfl, hin, h.symm⟩
                    · exact .inl h
                  · rintro (h | h)
                    · exact .inr h
                    · exact .inl h.2.2.symm
                have HAN1 := Lib.hid han1
                clear q2 hal
                go_wp2_with fail
                clear hcv hcn
                refine region_vals [.int .i64 (a : Int), .slice (some ⟨g1, o1, none⟩) tl c1, .int .i64 (tl : Int), .bool true, .bool true, .slice (some ⟨g1, o1, none⟩) tl c1, .int .i64 (a : Int), .pointer (some ⟨g1, o1 + a, none⟩), .int .u8 (ch : Int), .slice (some ⟨g3, k3, none⟩) L c, .int .i64 (k : Int), .pointer (some ⟨g3, k3 + k * 3, none⟩), .pointer (some ⟨g3, k3 + k * 3 + 1, none⟩), .int .u8 (lo : Int), .bool true, .bool true, .bool true, .slice (some ⟨g1, o1, none⟩) tl c1, .int .i64 (a : Int), .pointer (some ⟨g1, o1 + a, none⟩), .int .u8 (ch : Int), .slice (some ⟨g3, k3, none⟩) L c, .int .i64 (k : Int), .pointer (some ⟨g3, k3 + k * 3, none⟩), .pointer (some ⟨g3, k3 + k * 3 + 2, none⟩), .int .u8 (hi : Int), .bool true, .bool true] [some 48, some 49, some 50, some 51, some 52, some 53, some 54, some 55, some 56, some 57, some 58, some 59, some 60, some 61, some 62, some 63, some 64, some 65, some 66, some 67, some 68, some 69, some 70, some 71, some 72, some 73, some 74, some 75] (fun _ w' => Below wr.heap.size wr w') (by kernel_rfl) (by kernel_rfl) (by kernel_rfl) rfl rfl (Below.refl _ _).drew (fun ii hii => ?_) ?_
                · match ii, hii with
                  | 0, _ => exact vstep_first rfl (vwant_none rfl) (fun _ _ h => h) 12 (Or.inl rfl) (by kernel_rfl) rfl
                  | 1, _ => exact vstep_first rfl (vwant_none rfl) (fun _ _ h => h) 1 (Or.inl rfl) (by kernel_rfl) rfl
                  | 2, _ => exact vstep_pure rfl (vwant_none rfl) (fun _ _ h => h) (fun LL aa ww cc => ⟨.int .i64 (tl : Int), by have e0 : aa.tmps.getD 49 undef = .slice (some ⟨g1, o1, none⟩) tl c1 := cc.slot 1 49 (by kernel_rfl) rfl; simp only [execOp, Act.eval, e0]; go_simp, rfl⟩)
                  | 3, _ => exact vstep_pure rfl (vwant_none rfl) (fun _ _ h => h) (fun LL aa ww cc => ⟨.bool true, by have e0 : aa.tmps.getD 48 undef = .int .i64 (a : Int) := cc.slot 0 48 (by kernel_rfl) rfl; have e1 : aa.tmps.getD 50 undef = .int .i64 (tl : Int) := cc.slot 2 50 (by kernel_rfl) rfl; have q := QE.out; simp only [execOp, Act.eval, e0, e1]; go_simp, rfl⟩)
                  | 4, _ => exact vstep_copy rfl (vwant_none rfl) (fun _ _ h => h) 51 (Or.inl rfl) 3 (by kernel_rfl) rfl (fun _ h => h)
                  | 5, _ => exact vstep_first rfl (vwant 4 true 52 rfl (by kernel_rfl) rfl (fun _ h => h) (by kernel_rfl)) (fun _ _ h => h) 1 (Or.inl rfl) (by kernel_rfl) rfl
                  | 6, _ => exact vstep_first rfl (vwant 4 true 52 rfl (by kernel_rfl) rfl (fun _ h => h) (by kernel_rfl)) (fun _ _ h => h) 12 (Or.inl rfl) (by kernel_rfl) rfl
                  | 7, _ => exact vstep_pure rfl (vwant 4 true 52 rfl (by kernel_rfl) rfl (fun _ h => h) (by kernel_rfl)) (fun _ _ h => h) (fun LL aa ww cc => ⟨.pointer (some ⟨g1, o1 + a, none⟩), by have e0 : aa.tmps.getD 53 undef = .slice (some ⟨g1, o1, none⟩) tl c1 := cc.slot 5 53 (by kernel_rfl) rfl; have e1 : aa.tmps.getD 54 undef = .int .i64 (a : Int) := cc.slot 6 54 (by kernel_rfl) rfl; have q := QE.out; simp only [execOp, Act.eval, e0, e1]; go_simp, rfl⟩)
                  | 8, _ => exact vstep_pure rfl (vwant 4 true 52 rfl (by kernel_rfl) rfl (fun _ h => h) (by kernel_rfl)) (fun _ _ h => h) (fun LL aa ww cc => ⟨.int .u8 (ch : Int), by have e0 : aa.tmps.getD 55 undef = .pointer (some ⟨g1, o1 + a, none⟩) := cc.slot 7 55 (by kernel_rfl) rfl; have q := NC.out _ cc.world; simp only [execOp, Act.eval, e0]; go_simp, rfl⟩)
                  | 9, _ => exact vstep_first rfl (vwant 4 true 52 rfl (by kernel_rfl) rfl (fun _ h => h) (by kernel_rfl)) (fun _ _ h => h) 0 (Or.inl rfl) (by kernel_rfl) rfl
                  | 10, _ => exact vstep_first rfl (vwant 4 true 52 rfl (by kernel_rfl) rfl (fun _ h => h) (by kernel_rfl)) (fun _ _ h => h) 10 (Or.inl rfl) (by kernel_rfl) rfl
                  | 11, _ => exact vstep_pure rfl (vwant 4 true 52 rfl (by kernel_rfl) rfl (fun _ h => h) (by kernel_rfl)) (fun _ _ h => h) (fun LL aa ww cc => ⟨.pointer (some ⟨g3, k3 + k * 3, none⟩), by have e0 : aa.tmps.getD 57 undef = .slice (some ⟨g3, k3, none⟩) L c := cc.slot 9 57 (by kernel_rfl) rfl; have e1 : aa.tmps.getD 58 undef = .int .i64 (k : Int) := cc.slot 10 58 (by kernel_rfl) rfl; have q := QK.out; simp only [execOp, Act.eval, e0, e1]; go_simp, rfl⟩)
                  | 12, _ => exact vstep_pure rfl (vwant 4 true 52 rfl (by kernel_rfl) rfl (fun _ h => h) (by kernel_rfl)) (fun _ _ h => h) (fun LL aa ww cc => ⟨.pointer (some ⟨g3, k3 + k * 3 + 1, none⟩), by have e0 : aa.tmps.getD 59 undef = .pointer (some ⟨g3, k3 + k * 3, none⟩) := cc.slot 11 59 (by kernel_rfl) rfl; simp only [execOp, Act.eval, e0]; go_simp, rfl⟩)
                  | 13, _ => exact vstep_pure rfl (vwant 4 true 52 rfl (by kernel_rfl) rfl (fun _ h => h) (by kernel_rfl)) (fun _ _ h => h) (fun LL aa ww cc => ⟨.int .u8 (lo : Int), by have e0 : aa.tmps.getD 60 undef = .pointer (some ⟨g3, k3 + k * 3 + 1, none⟩) := cc.slot 12 60 (by kernel_rfl) rfl; have q := ML.out _ cc.world; simp only [execOp, Act.eval, e0]; go_simp, rfl⟩)
                  | 14, _ => exact vstep_pure rfl (vwant 4 true 52 rfl (by kernel_rfl) rfl (fun _ h => h) (by kernel_rfl)) (fun _ _ h => h) (fun LL aa ww cc => ⟨.bool true, by have e0 : aa.tmps.getD 56 undef = .int .u8 (ch : Int) := cc.slot 8 56 (by kernel_rfl) rfl; have e1 : aa.tmps.getD 61 undef = .int .u8 (lo : Int) := cc.slot 13 61 (by kernel_rfl) rfl; have q := Nat.not_lt.1 Q1.out; simp only [execOp, Act.eval, e0, e1]; go_simp, rfl⟩)
                  | 15, _ => exact vstep_pure rfl (vwant_none rfl) (fun _ _ h => h) (fun LL aa ww cc => ⟨.bool true, by have e0 : aa.tmps.getD 52 undef = .bool true := cc.slot 4 52 (by kernel_rfl) rfl; have e1 : aa.tmps.getD 62 undef = .bool true := cc.slot 14 62 (by kernel_rfl) rfl; simp only [execOp, Act.eval, e0, e1]; go_simp, rfl⟩)
                  | 16, _ => exact vstep_copy rfl (vwant_none rfl) (fun _ _ h => h) 63 (Or.inl rfl) 15 (by kernel_rfl) rfl (fun _ h => h)
                  | 17, _ => exact vstep_first rfl (vwant 16 true 64 rfl (by kernel_rfl) rfl (fun _ h => h) (by kernel_rfl)) (fun _ _ h => h) 1 (Or.inl rfl) (by kernel_rfl) rfl
                  | 18, _ => exact vstep_first rfl (vwant 16 true 64 rfl (by kernel_rfl) rfl (fun _ h => h) (by kernel_rfl)) (fun _ _ h => h) 12 (Or.inl rfl) (by kernel_rfl) rfl
                  | 19, _ => exact vstep_pure rfl (vwant 16 true 64 rfl (by kernel_rfl) rfl (fun _ h => h) (by kernel_rfl)) (fun _ _ h => h) (fun LL aa ww cc => ⟨.pointer (some ⟨g1, o1 + a, none⟩), by have e0 : aa.tmps.getD 65 undef = .slice (some ⟨g1, o1, none⟩) tl c1 := cc.slot 17 65 (by kernel_rfl) rfl; have e1 : aa.tmps.getD 66 undef = .int .i64 (a : Int) := cc.slot 18 66 (by kernel_rfl) rfl; have q := QE.out; simp only [execOp, Act.eval, e0, e1]; go_simp, rfl⟩)
                  | 20, _ => exact vstep_pure rfl (vwant 16 true 64 rfl (by kernel_rfl) rfl (fun _ h => h) (by kernel_rfl)) (fun _ _ h => h) (fun LL aa ww cc => ⟨.int .u8 (ch : Int), by have e0 : aa.tmps.getD 67 undef = .pointer (some ⟨g1, o1 + a, none⟩) := cc.slot 19 67 (by kernel_rfl) rfl; have q := NC.out _ cc.world; simp only [execOp, Act.eval, e0]; go_simp, rfl⟩)
                  | 21, _ => exact vstep_first rfl (vwant 16 true 64 rfl (by kernel_rfl) rfl (fun _ h => h) (by kernel_rfl)) (fun _ _ h => h) 0 (Or.inl rfl) (by kernel_rfl) rfl
                  | 22, _ => exact vstep_first rfl (vwant 16 true 64 rfl (by kernel_rfl) rfl (fun _ h => h) (by kernel_rfl)) (fun _ _ h => h) 10 (Or.inl rfl) (by kernel_rfl) rfl
                  | 23, _ => exact vstep_pure rfl (vwant 16 true 64 rfl (by kernel_rfl) rfl (fun _ h => h) (by kernel_rfl)) (fun _ _ h => h) (fun LL aa ww cc => ⟨.pointer (some ⟨g3, k3 + k * 3, none⟩), by have e0 : aa.tmps.getD 69 undef = .slice (some ⟨g3, k3, none⟩) L c := cc.slot 21 69 (by kernel_rfl) rfl; have e1 : aa.tmps.getD 70 undef = .int .i64 (k : Int) := cc.slot 22 70 (by kernel_rfl) rfl; have q := QK.out; simp only [execOp, Act.eval, e0, e1]; go_simp, rfl⟩)
                  | 24, _ => exact vstep_pure rfl (vwant 16 true 64 rfl (by kernel_rfl) rfl (fun _ h => h) (by kernel_rfl)) (fun _ _ h => h) (fun LL aa ww cc => ⟨.pointer (some ⟨g3, k3 + k * 3 + 2, none⟩), by have e0 : aa.tmps.getD 71 undef = .pointer (some ⟨g3, k3 + k * 3, none⟩) := cc.slot 23 71 (by kernel_rfl) rfl; simp only [execOp, Act.eval, e0]; go_simp, rfl⟩)
                  | 25, _ => exact vstep_pure rfl (vwant 16 true 64 rfl (by kernel_rfl) rfl (fun _ h => h) (by kernel_rfl)) (fun _ _ h => h) (fun LL aa ww cc => ⟨.int .u8 (hi : Int), by have e0 : aa.tmps.getD 72 undef = .pointer (some ⟨g3, k3 + k * 3 + 2, none⟩) := cc.slot 24 72 (by kernel_rfl) rfl; have q := MH.out _ cc.world; simp only [execOp, Act.eval, e0]; go_simp, rfl⟩)
                  | 26, _ => exact vstep_pure rfl (vwant 16 true 64 rfl (by kernel_rfl) rfl (fun _ h => h) (by kernel_rfl)) (fun _ _ h => h) (fun LL aa ww cc => ⟨.bool true, by have e0 : aa.tmps.getD 68 undef = .int .u8 (ch : Int) := cc.slot 20 68 (by kernel_rfl) rfl; have e1 : aa.tmps.getD 73 undef = .int .u8 (hi : Int) := cc.slot 25 73 (by kernel_rfl) rfl; have q := Nat.not_lt.1 Q2.out; simp only [execOp, Act.eval, e0, e1]; go_simp, rfl⟩)
                  | 27, _ => exact vstep_pure rfl (vwant_none rfl) (fun _ _ h => h) (fun LL aa ww cc => ⟨.bool true, by have e0 : aa.tmps.getD 64 undef = .bool true := cc.slot 16 64 (by kernel_rfl) rfl; have e1 : aa.tmps.getD 74 undef = .bool true := cc.slot 26 74 (by kernel_rfl) rfl; simp only [execOp, Act.eval, e0, e1]; go_simp, rfl⟩)
                  | n + 28, h => exact absurd h (by show ¬ (n + 28 < 28); omega)
                · intro L9 w6 _ hj6
                  have HG6 : Hid (w3.grownBy w6 (some gu)) := Lib.hid (HGR.out.trans (grownBy_below hj6 (Nat.le_refl _)))
                  have HB6 : Hid (Blk w6 gu (bcs u)) := Lib.hid (HBU.out.below hj6 HBU.out.lt)
                  clear hj6 NC ML MH
                  refine (by assumption : ∀ (a : Act) (w : World), Code.wp _ _ _ a w → _) _ _ ?_
                  simp only [List.zip_cons_cons, List.zip_nil_right, putsL]
                  go_simp
                  go_wp2_with (first
                    | ((with_reducible show wpList _ _ _ (Oper.mk _ (Op.store 4 _ _) _ _ _ _ :: _) _ _); refine wpList_storeB rfl 4 _ _ rfl gu (a + 1) _ (.bool true) rfl rfl HB6.out (by rw [bcs_len, HUL.out]; exact HAN1.out) s1Bl rfl ?_)
                    | fail)
                  intro w7 hb7 hg7
                  have HB7 : Hid (Blk w7 gu (bcs (u.set (a + 1) true))) := Lib.hid (by rw [← bcs_set]; exact hb7)
                  have HG7 : Hid (w3.grownBy w7 (some gu)) := Lib.hid (HG6.out.trans hg7)
                  clear hb7 hg7
                  go_wp2
                  go_roundw
                  case rel => exact ⟨a + 1, _, by omega, by go_num, by rw [List.length_set]; exact HUL.out, HB7.out, HNT.out, HG7.out⟩
                  case measure => simp [intOf]; omega
              · have hate : a = tl := by omega
                have QE : Hid (¬ a < tl) := Lib.hid hal
                have HNT : Hid (∀ j, j < n → (u.getD j false = true ↔ NextR is (byts s) v x (a + 1) j)) := Lib.hid fun j hj => by
                  rw [NextR.succ, HUE.out j hj, ends_byte HXL.out.2.2]
                  refine ⟨.inl, fun h => h.elim id fun h => ?_⟩
                  obtain ⟨_, ⟨h1, _⟩, _⟩ := h
                  have := HTL.out.2
                  omega
                clear hate hal
                go_wp2_with fail
                clear hcv hcn
                refine region_vals [.int .i64 (a : Int), .slice A1 tl c1, .int .i64 (tl : Int), .bool false, .bool false, undef, undef, undef, undef, undef, undef, undef, undef, undef, undef, .bool false, .bool false, undef, undef, undef, undef, undef, undef, undef, undef, undef, undef, .bool false] [some 48, some 49, some 50, some 51, some 52, some 53, some 54, some 55, some 56, some 57, some 58, some 59, some 60, some 61, some 62, some 63, some 64, some 65, some 66, some 67, some 68, some 69, some 70, some 71, some 72, some 73, some 74, some 75] (fun _ w' => Below wr.heap.size wr w') (by kernel_rfl) (by kernel_rfl) (by kernel_rfl) rfl rfl (Below.refl _ _).drew (fun ii hii => ?_) ?_
                · match ii, hii with
                  | 0, _ => exact vstep_first rfl (vwant_none rfl) (fun _ _ h => h) 12 (Or.inl rfl) (by kernel_rfl) rfl
                  | 1, _ => exact vstep_first rfl (vwant_none rfl) (fun _ _ h => h) 1 (Or.inl rfl) (by kernel_rfl) rfl
                  | 2, _ => exact vstep_pure rfl (vwant_none rfl) (fun _ _ h => h) (fun LL aa ww cc => ⟨.int .i64 (tl : Int), by have e0 : aa.tmps.getD 49 undef = .slice A1 tl c1 := cc.slot 1 49 (by kernel_rfl) rfl; simp only [execOp, Act.eval, e0]; go_simp, rfl⟩)
                  | 3, _ => exact vstep_pure rfl (vwant_none rfl) (fun _ _ h => h) (fun LL aa ww cc => ⟨.bool false, by have e0 : aa.tmps.getD 48 undef = .int .i64 (a : Int) := cc.slot 0 48 (by kernel_rfl) rfl; have e1 : aa.tmps.getD 50 undef = .int .i64 (tl : Int) := cc.slot 2 50 (by kernel_rfl) rfl; have q := QE.out; simp only [execOp, Act.eval, e0, e1]; go_simp, rfl⟩)
                  | 4, _ => exact vstep_copy rfl (vwant_none rfl) (fun _ _ h => h) 51 (Or.inl rfl) 3 (by kernel_rfl) rfl (fun _ h => h)
                  | 5, _ => exact vstep_unwanted rfl 4 true 52 rfl (by kernel_rfl) rfl (fun _ h => Or.inl h) (by kernel_rfl) rfl (fun _ _ h => h)
                  | 6, _ => exact vstep_unwanted rfl 4 true 52 rfl (by kernel_rfl) rfl (fun _ h => Or.inl h) (by kernel_rfl) rfl (fun _ _ h => h)
                  | 7, _ => exact vstep_unwanted rfl 4 true 52 rfl (by kernel_rfl) rfl (fun _ h => Or.inl h) (by kernel_rfl) rfl (fun _ _ h => h)
                  | 8, _ => exact vstep_unwanted rfl 4 true 52 rfl (by kernel_rfl) rfl (fun _ h => Or.inl h) (by kernel_rfl) rfl (fun _ _ h => h)
                  | 9, _ => exact vstep_unwanted rfl 4 true 52 rfl (by kernel_rfl) rfl (fun _ h => Or.inl h) (by kernel_rfl) rfl (fun _ _ h => h)
                  | 10, _ => exact vstep_unwanted rfl 4 true 52 rfl (by kernel_rfl) rfl (fun _ h => Or.inl h) (by kernel_rfl) rfl (fun _ _ h => h)
                  | 11, _ => exact vstep_unwanted rfl 4 true 52 rfl (by kernel_rfl) rfl (fun _ h => Or.inl h) (by kernel_rfl) rfl (fun _ _ h => h)
                  | 12, _ => exact vstep_unwanted rfl 4 true 52 rfl (by kernel_rfl) rfl (fun _ h => Or.inl h) (by kernel_rfl) rfl (fun _ _ h => h)
                  | 13, _ => exact vstep_unwanted rfl 4 true 52 rfl (by kernel_rfl) rfl (fun _ h => Or.inl h) (by kernel_rfl) rfl (fun _ _ h => h)
                  | 14, _ => exact vstep_unwanted rfl 4 true 52 rfl (by kernel_rfl) rfl (fun _ h => Or.inl h) (by kernel_rfl) rfl (fun _ _ h => h)
                  | 15, _ => exact vstep_pure rfl (vwant_none rfl) (fun _ _ h => h) (fun LL aa ww cc => ⟨.bool false, by have e0 : aa.tmps.getD 52 undef = .bool false := cc.slot 4 52 (by kernel_rfl) rfl; simp only [execOp, Act.eval, e0]; go_simp, rfl⟩)
                  | 16, _ => exact vstep_copy rfl (vwant_none rfl) (fun _ _ h => h) 63 (Or.inl rfl) 15 (by kernel_rfl) rfl (fun _ h => h)
                  | 17, _ => exact vstep_unwanted rfl 16 true 64 rfl (by kernel_rfl) rfl (fun _ h => Or.inl h) (by kernel_rfl) rfl (fun _ _ h => h)
                  | 18, _ => exact vstep_unwanted rfl 16 true 64 rfl (by kernel_rfl) rfl (fun _ h => Or.inl h) (by kernel_rfl) rfl (fun _ _ h => h)
                  | 19, _ => exact vstep_unwanted rfl 16 true 64 rfl (by kernel_rfl) rfl (fun _ h => Or.inl h) (by kernel_rfl) rfl (fun _ _ h => h)
                  | 20, _ => exact vstep_unwanted rfl 16 true 64 rfl (by kernel_rfl) rfl (fun _ h => Or.inl h) (by kernel_rfl) rfl (fun _ _ h => h)
                  | 21, _ => exact vstep_unwanted rfl 16 true 64 rfl (by kernel_rfl) rfl (fun _ h => Or.inl h) (by kernel_rfl) rfl (fun _ _ h => h)
                  | 22, _ => exact vstep_unwanted rfl 16 true 64 rfl (by kernel_rfl) rfl (fun _ h => Or.inl h) (by kernel_rfl) rfl (fun _ _ h => h)
                  | 23, _ => exact vstep_unwanted rfl 16 true 64 rfl (by kernel_rfl) rfl (fun _ h => Or.inl h) (by kernel_rfl) rfl (fun _ _ h => h)
                  | 24, _ => exact vstep_unwanted rfl 16 true 64 rfl (by kernel_rfl) rfl (fun _ h => Or.inl h) (by kernel_rfl) rfl (fun _ _ h => h)
                  | 25, _ => exact vstep_unwanted rfl 16 true 64 rfl (by kernel_rfl) rfl (fun _ h => Or.inl h) (by kernel_rfl) rfl (fun _ _ h => h)
                  | 26, _ => exact vstep_unwanted rfl 16 true 64 rfl (by kernel_rfl) rfl (fun _ h => Or.inl h) (by kernel_rfl) rfl (fun _ _ h => h)
                  | 27, _ => exact vstep_pure rfl (vwant_none rfl) (fun _ _ h => h) (fun LL aa ww cc => ⟨.bool false, by have e0 : aa.tmps.getD 64 undef = .bool false := cc.slot 16 64 (by kernel_rfl) rfl; simp only [execOp, Act.eval, e0]; go_simp, rfl⟩)
                  | n + 28, h => exact absurd h (by show ¬ (n + 28 < 28); omega)
                · intro L9 w6 _ hj6
                  have HG6 : Hid (w3.grownBy w6 (some gu)) := Lib.hid (HGR.out.trans (grownBy_below hj6 (Nat.le_refl _)))
                  have HB6 : Hid (Blk w6 gu (bcs u)) := Lib.hid (HBU.out.below hj6 HBU.out.lt)
                  clear hj6 ML MH
                  refine (by assumption : ∀ (a : Act) (w : World), Code.wp _ _ _ a w → _) _ _ ?_
                  simp only [List.zip_cons_cons, List.zip_nil_right, putsL]
                  go_simp
                  go_wp2
                  go_roundw
                  case rel => exact ⟨a + 1, u, by omega, by go_num, HUL.out, HB6.out, HNT.out, HG6.out⟩
                  case measure => simp [intOf]; omega
            · obtain ⟨nx, rfl⟩ := Int.eq_ofNat_of_zero_le (show 0 ≤ nm by omega)
              have HXN : Hid (x.name.toNat = nx ∧ ¬ x.name < 0 ∧ nx < N) := Lib.hid (by have := HNX.out; have := HNM.out x HXM.out.1; omega)
              have HWQ : Hid (Below w.heap.size w wr) := HWr
              go_wp2
              clear hcv hcn
              go_loopw [13] (fun s13 wq => ∃ (b : Nat) (u2 : List Bool), a ≤ b ∧ b ≤ n ∧ s13 = .int .i64 (b : Int) ∧ u2.length = n ∧ Blk wq gu (bcs u2) ∧ (∀ j, j < n → (u2.getD j false = true ↔ NextR is (byts s) v x a j ∨ (j < b ∧ a ≤ j ∧ is nx a j = true))) ∧ w3.grownBy wq (some gu)) (fun s13 _ => n - (intOf s13).toNat)
              case atStart =>
                refine ⟨a, u, Nat.le_refl _, Nat.le_of_lt han, rfl, HUL.out, HBU.out, fun j hj => ?_, HGR.out⟩
                rw [HUE.out j hj]
                exact ⟨.inl, fun h => h.elim id fun h => by omega⟩
              case round =>
                obtain ⟨b, u2, hab, hbn, rfl, hul, hbu, hue, hgr⟩ := hrel
                have HUL2 := Lib.hid hul
                have HBU2 := Lib.hid hbu
                have HUE2 := Lib.hid hue
                have HGR2 := Lib.hid hgr
                have HW4 : Hid (Below w.heap.size w wr) := Lib.hid ⟨hgr.os.trans HW3.out.os, hgr.tape.trans HW3.out.tape, hgr.output.trans HW3.out.output, Nat.le_trans HW3.out.size hgr.size, fun k hk => (hgr.block k (Nat.lt_of_lt_of_le hk HW3.out.size) (fun e => by injection e with e; have := HGU.out; omega)).trans (HW3.out.block k hk)⟩
                have HDr : Hid (IsD wr G N n is) := Lib.hid (HD.out.below HW4.out)
                clear hul hbu hue hgr HUL HBU HUE HGR HWr HBVr HWQ
                by_cases hbt : b ≤ tl
                · have hbn' : b < n := by have := HN.out; omega
                  have hnxN : nx < N := HXN.out.2.2
                  obtain ⟨ib, hib⟩ : ∃ ib, ib = is nx a b := ⟨_, rfl⟩
                  have HIB := Lib.hid hib
                  have hc1 := HDr.out.c1 hnxN
                  have hc2 := HDr.out.c2 hnxN han
                  have hc3 := HDr.out.c3 hnxN han hbn'
                  have hcx : wr.cell? ⟨g3, k3 + k * 3, none⟩ = some (.int .i64 (nx : Int)) := (range_below HROW.out.1 HW4.out HROW.out.2) 0 _ (by rw [HNX.out]; rfl)
                  rw [← hib] at hc3
                  obtain ⟨y1, hy1⟩ : ∃ y, y = G + 1 + nx * (n + 1) := ⟨_, rfl⟩
                  obtain ⟨y2, hy2⟩ : ∃ y, y = G + 1 + (nx * (n + 1) + (a + 1)) := ⟨_, rfl⟩
                  rw [← hy1] at hc1 hc2
                  rw [← hy2] at hc2 hc3
                  have HBN := Lib.hid hbn'
                  clear hib hy1 hy2
                  cases ib with
                  | true =>
                    have HNT : Hid (∀ j, j < n → ((u2.set b true).getD j false = true ↔ NextR is (byts s) v x a j ∨ (j < b + 1 ∧ a ≤ j ∧ is nx a j = true))) := Lib.hid fun j hj => by
                      rw [getD_setT (by rw [HUL2.out]; exact HBN.out), HUE2.out j hj]
                      have := HIB.out
                      constructor
                      · rintro (rfl | h | h)
                        · exact .inr ⟨by omega, hab, this.symm⟩
                        · exact .inl h
                        · exact .inr ⟨by omega, h.2⟩
                      · rintro (h | h)
                        · exact .inr (.inl h)
                        · by_cases e : j = b
                          · exact .inl e
                          · exact .inr (.inr ⟨by omega, h.2⟩)
                    go_wp2_with (first
                      | ((with_reducible show wpList _ _ _ (Oper.mk _ (Op.store 4 _ _) _ _ _ _ :: _) _ _); refine wpList_storeB rfl 4 _ _ rfl gu b _ (.bool true) rfl rfl HBU2.out (by rw [bcs_len, HUL2.out]; exact HBN.out) s1Bl rfl ?_)
                      | fail)
                    intro w7 hb7 hg7
                    have HB7 : Hid (Blk w7 gu (bcs (u2.set b true))) := Lib.hid (by rw [← bcs_set]; exact hb7)
                    have HG7 : Hid (w3.grownBy w7 (some gu)) := Lib.hid (HGR2.out.trans hg7)
                    clear hb7 hg7 hc1 hc2 hc3 hcx
                    go_wp2
                    go_roundw
                    case rel => exact ⟨b + 1, _, by omega, by omega, by go_num, by rw [List.length_set]; exact HUL2.out, HB7.out, HNT.out, HG7.out⟩
                    case measure => simp [intOf]; omega
                  | false =>
                    have HNT : Hid (∀ j, j < n → (u2.getD j false = true ↔ NextR is (byts s) v x a j ∨ (j < b + 1 ∧ a ≤ j ∧ is nx a j = true))) := Lib.hid fun j hj => by
                      rw [HUE2.out j hj]
                      have := HIB.out
                      constructor
                      · rintro (h | h)
                        · exact .inl h
                        · exact .inr ⟨by omega, h.2⟩
                      · rintro (h | h)
                        · exact .inl h
                        · by_cases e : j = b
                          · subst e
                            rw [h.2.2] at this
                            cases this
                          · exact .inr ⟨by omega, h.2⟩
                    go_wp2
                    clear hc1 hc2 hc3 hcx
                    go_roundw
                    case rel => exact ⟨b + 1, u2, by omega, by omega, by go_num, HUL2.out, HBU2.out, HNT.out, HGR2.out⟩
                    case measure => simp [intOf]; omega
                · have HNT : Hid (∀ j, j < n → (u2.getD j false = true ↔ NextR is (byts s) v x (a + 1) j)) := Lib.hid fun j hj => by
                    rw [NextR.succ, HUE2.out j hj, ends_name (by have := HXN.out.2.1; omega), HXN.out.1, ← HVA.out]
                    have := HN.out
                    have := HTL.out.2
                    constructor
                    · rintro (h | h)
                      · exact .inl h
                      · exact .inr ⟨rfl, h.2.1, by omega, h.2.2⟩
                    · rintro (h | h)
                      · exact .inl h
                      · exact .inr ⟨by omega, h.2.1, h.2.2.2⟩
                  go_wp2
                  go_roundw
                  case rel => exact ⟨a + 1, u2, by omega, by go_num, HUL2.out, HBU2.out, HNT.out, HGR2.out⟩
                  case measure => simp [intOf]; omega
        · have HNT : Hid (∀ j, j < n → (u.getD j false = true ↔ EndsR is (byts s) (l.take (k + 1)) i j)) := Lib.hid fun j hj => by
            rw [HUE.out j hj, HXM.out.2, EndsR.snoc]
            have := HN.out
            have := HTL.out.2
            constructor
            · rintro ⟨a', h1, h2, h3⟩
              exact ⟨a', (HVE.out a' (by omega)).1 h2, h3⟩
            · rintro ⟨a', h1, h2⟩
              have hb := EndsR.bound (by omega) h1
              exact ⟨a', by omega, (HVE.out a' (by omega)).2 h1, h2⟩
          go_wp2
          go_roundw
          case rel => exact ⟨k + 1, gu, u, by omega, by go_num, rfl, HUL.out, HBU.out, HGU.out.1, HNT.out, HWr.out⟩
          case measure => simp [intOf]; omega
    · have HRES : Hid (∀ j, j < n → (v.getD j false = true ↔ EndsR is (byts s) l i j)) := Lib.hid fun j hj => by
        have := HVE.out j hj
        rwa [List.take_of_length_le (by have := HL.out; omega)] at this
      go_wp2
      go_ret
      exact ⟨g, v, rfl, HVL.out, HBV.out, HRES.out, HGB.out, HBW.out⟩
end Go.Proofs.YtiebpmpjclnpeaaDoor
/- Derives: is a short text one of name 0's, by the forms alone? -/
namespace Nac.Gram
def trips (N n : Nat) : List (Nat × Nat × Nat) := (List.range N).flatMap fun x => (List.range n).flatMap fun i => (List.range n).map fun j => (x, i, j)
theorem mem_trips {N n x i j : Nat} : (x, i, j) ∈ trips N n ↔ x < N ∧ i < n ∧ j < n := by
  unfold trips
  simp only [List.mem_flatMap, List.mem_range, List.mem_map, Prod.mk.injEq]
  constructor
  · rintro ⟨a, h1, b, h2, d, h3, rfl, rfl, rfl⟩
    exact ⟨h1, h2, h3⟩
  · rintro ⟨h1, h2, h3⟩
    exact ⟨x, h1, i, h2, j, h3, rfl, rfl, rfl⟩
def cntT (N n : Nat) (is : Nat → Nat → Nat → Bool) : Nat := (trips N n).countP fun t => is t.1 t.2.1 t.2.2
theorem cntT_le (N n : Nat) (is : Nat → Nat → Nat → Bool) : cntT N n is ≤ (trips N n).length := List.countP_le_length
/-- what a round has come to so far -/
def InvT (N n : Nat) (is0 is : Nat → Nat → Nat → Bool) (gr : Bool) : Prop := (gr = true → cntT N n is0 < cntT N n is) ∧ (gr = false → is = is0)
/-- the forms ahead of q are closed, and of form q the pieces ahead of (i, j) -/
def ClT (is : Nat → Nat → Nat → Bool) (s : List Nat) (G : List Frm) (q i j : Nat) : Prop := ∀ p (hp : p < G.length) i' j', (p < q ∨ p = q ∧ (i' < i ∨ i' = i ∧ j' < j)) → i' ≤ j' → j' ≤ s.length → EndsR is s G[p].body i' j' → is G[p].name i' j' = true
section
variable {is : Nat → Nat → Nat → Bool} {s : List Nat} {G : List Frm} {q i j : Nat}
theorem ClT.zero : ClT is s G 0 0 0 := fun p _ i' j' h => by omega
theorem ClT.closed (h : ClT is s G G.length 0 0) : Closed is s G := fun f hf i j hij hj he => by
  obtain ⟨p, hp, rfl⟩ := List.mem_iff_getElem.1 hf
  exact h p hp i j (.inl hp) hij hj he
theorem ClT.nextForm (h : ClT is s G q i 0) (hi : s.length < i) : ClT is s G (q + 1) 0 0 := fun p hp i' j' h1 h2 h3 h4 => h p hp i' j' (by omega) h2 h3 h4
theorem ClT.nextPlace (h : ClT is s G q i j) (hj : s.length < j) : ClT is s G q (i + 1) 0 := fun p hp i' j' h1 h2 h3 h4 => h p hp i' j' (by omega) h2 h3 h4
theorem ClT.skip (h : ClT is s G q i 0) : ClT is s G q i i := fun p hp i' j' h1 h2 h3 h4 => h p hp i' j' (by omega) h2 h3 h4
theorem ClT.step (h : ClT is s G q i j) (hq : ∀ hp : q < G.length, EndsR is s G[q].body i j → is G[q].name i j = true) : ClT is s G q i (j + 1) := fun p hp i' j' h1 h2 h3 h4 => by
  by_cases e : p = q ∧ i' = i ∧ j' = j
  · obtain ⟨rfl, rfl, rfl⟩ := e
    exact hq hp h4
  · exact h p hp i' j' (by omega) h2 h3 h4
end
end Nac.Gram
namespace Go.Proofs.YtiebpmpjclnpeaaDoor
open Go.RowKit Nac Nac.Gram
theorem cnt_upd {N n x i j : Nat} {is : Nat → Nat → Nat → Bool} (hx : x < N) (hi : i < n) (hj : j < n) (h : is x i j = false) : cntT N n is < cntT N n (updT is x i j) := by
  refine countP_lt (fun t _ ht => ?_) ⟨(x, i, j), mem_trips.2 ⟨hx, hi, hj⟩, h, by simp [updT]⟩
  show updT is x i j t.1 t.2.1 t.2.2 = true
  unfold updT
  split
  · rfl
  · exact ht
theorem invT_upd {N n x i j : Nat} {is0 is : Nat → Nat → Nat → Bool} {gr : Bool} (hv : InvT N n is0 is gr) (hx : x < N) (hi : i < n) (hj : j < n) (h : is x i j = false) : InvT N n is0 (updT is x i j) true := by
  refine ⟨fun _ => ?_, fun e => (by cases e)⟩
  have h1 := cnt_upd hx hi hj h
  cases gr with
  | true => have := hv.1 rfl; omega
  | false => have := hv.2 rfl; subst this; exact h1
/-- a region in which one row is made -/
def JM (i0 : Nat) (W : World) (n : Nat) (z : Value) (L : Nat → Bool) (w : World) : Prop := (L i0 = false ∧ w = W) ∨ (L i0 = true ∧ Blk w W.heap.size (List.replicate n z) ∧ W.grownBy w none ∧ w.heap.size = W.heap.size + 1)
theorem JM.below {i0 n : Nat} {W w : World} {z : Value} {L : Nat → Bool} (h : JM i0 W n z L w) : Below W.heap.size W w := by
  rcases h with ⟨_, rfl⟩ | ⟨_, _, h, _⟩
  · exact Below.refl _ _
  · exact grown_below h (Nat.le_refl _) (fun k e => by cases e)
theorem vstep_make1 {ops : Array Oper} {Q : Exit → Act → World → Prop} {D : Nat → Value → Prop} {J : (Nat → Bool) → World → Prop} {a0 : Act} {i : Nat} {o : Oper} (ho : ops[i]? = some o) (x : Tmp) (T : TypeId) (hop : o.op = .makeSlice T (.tmp x) (.tmp x))
    {E : TypeId} {z : Value} {bytes : Nat} (hu : Tryd.prog.underlying T = some (.slice E)) (hinfo : (Tryd.prog.info? E).map (fun i => (i.zero, i.size, i.bytes)) = some (some z, 1, bytes)) (hz : z.cells = #[z]) (hby : bytes ≤ 32)
    (hw : ∀ L a w, VCtx ops D J a0 i L a w → Region.wanted o (yielded ops a.tmps) = true) (n : Nat) (hn : n ≤ 1000000)
    (hx : ∀ L a w, VCtx ops D J a0 i L a w → a.tmps.getD x undef = .int .i64 (n : Int)) (g : Nat) (hJ0 : ∀ L w, J L w → L i = false → w.heap.size = g) (hD : D i (.slice (some ⟨g, 0, none⟩) n n))
    (hJ : ∀ L w w', J L w → L i = false → Blk w' g (List.replicate n z) → w.grownBy w' none → w'.heap.size = g + 1 → J (upd L i) w') : VStep Tryd.prog ops Q D J a0 i := by
  intro o' ho' L a w c
  rw [ho] at ho'
  obtain rfl := Option.some.inj ho'
  rw [if_pos (hw L a w c)]
  have e1 := hx L a w c
  have e2 := hJ0 L w c.world c.fresh
  obtain ⟨w', hr, h1, h2, h3⟩ := run_make1 hu hinfo hz hby w n hn
  rw [e2] at hr h1 h3
  have hr2 : (execOp a.eval o).run Tryd.prog w = .ok (.value (.slice (some ⟨g, 0, none⟩) n n)) w' := by
    unfold execOp
    simp only [hop, Act.eval, e1, Sem.run_bind, hr, Result.andThen_ok, Sem.run_pure]
  unfold Oper.wp
  rw [hr2]
  exact ⟨_, rfl, hD, hJ L w w' c.world c.fresh h1 h2 h3⟩
theorem size_setCell (w : World) (b k : Nat) (cs : List Value) (v : Value) (hb : Blk w b cs) : (w.setCell ⟨b, k, none⟩ v).heap.size = w.heap.size := by
  obtain ⟨t, h⟩ := hb
  simp only [World.setCell, h]
  exact Array.size_modify
section
variable {w : World} {ops : Array Oper} {rest : List Oper} {o : Oper} {a : Act} {Q : Exit → Act → World → Prop}
theorem wpList_storeZ (hg : o.guard = none) (ty : TypeId) (x y : Operand) (hop : o.op = .store ty x y) (b k : Nat) (cs : List Value) (v : Value) (hx : a.eval x = .pointer (some ⟨b, k, none⟩)) (hy : a.eval y = v) (hb : Blk w b cs) (hk : k < cs.length)
    (hi : (Tryd.prog.info? ty).map (·.size) = some 1) (h1 : v.oneCell' = true) (h : ∀ w', Blk w' b (cs.set k v) → w.grownBy w' (some b) → w'.heap.size = w.heap.size → wpList Tryd.prog ops Q rest (a.put o.dst undef) w') : wpList Tryd.prog ops Q (o :: rest) a w :=
  wpList_store1 hg ty x y hop b k v cs[k] hx hy (hb.cell (List.getElem?_eq_getElem hk)) (hb.free k) hi h1 fun w' hw => by
    rw [hw.out]
    exact h _ (hb.setCell k v) (grown_setCell _ _ _) (size_setCell w b k cs v hb)
end
set_option maxRecDepth 100000 in
set_option maxHeartbeats 4000000 in
theorem rderives_calls (w : World) (N : Nat) (A A1 : Option Addr) (c c1 : Nat) (M : List FormAt) (s : List UInt8) (hG : Shaped (fms M) N) (hN1 : 1 ≤ N) (h48 : M.length ≤ 48) (hr : RG w w.heap.size A M) (hs : RB w w.heap.size A1 s) (h10 : s.length ≤ 10)
    (hdb : DB (fms M) [⟨0, 0, 0⟩] (byts s)) :
    Calls Tryd.prog 23 #[.agg (grv (N : Int) A M.length c).toArray, .slice A1 s.length c1] w (RetG w (.bool true)) := by
  have HGS := Lib.hid hG
  have HR := Lib.hid hr
  have HS := Lib.hid hs
  have HDB := Lib.hid hdb
  obtain ⟨tl, htl⟩ : ∃ tl, tl = s.length := ⟨_, rfl⟩
  obtain ⟨nf, hnf⟩ : ∃ nf, nf = M.length := ⟨_, rfl⟩
  obtain ⟨n, hn⟩ : ∃ n, n = tl + 1 := ⟨_, rfl⟩
  have HTL : Hid (tl = s.length ∧ tl = (byts s).length) := Lib.hid ⟨htl, by rw [htl]; simp [byts]⟩
  have HNF : Hid (nf = M.length ∧ nf = (fms M).length) := Lib.hid ⟨hnf, by rw [hnf]; simp [fms]⟩
  have HN : Hid (n = tl + 1) := Lib.hid hn
  have HN1 := Lib.hid hN1
  rw [← htl, ← hnf]
  have hn11 : n ≤ 11 := by omega
  have hnf48 : nf ≤ 48 := by omega
  have hN16 : N ≤ 16 := hG.n16
  have q0 : IntKind.i64.wrap ((tl : Int) + 1) = (n : Int) := by rw [IntKind.wrap_i64]; omega
  clear hG hr hs hdb htl hnf hn hN1 h48 h10
  go_enter Tryd.func23, Tryd.ntmps23
  go_wp2_with (first | ((with_reducible show wpList _ _ _ (Oper.mk (some 2) (Op.box 27 _) _ _ _ _ :: _) _ _); refine wpList_boxS (T := 27) rfl _ rfl (grv (N : Int) A nf c) rfl ?_) | fail)
  intro w1 hb1 hg1 hs1
  obtain ⟨b2, hb2e⟩ : ∃ b, b = w.heap.size := ⟨_, rfl⟩
  rw [← hb2e] at hb1 ⊢
  have HB1 := Lib.hid hb1
  have HW1 : Hid (Below w.heap.size w w1) := Lib.hid (grown_below hg1 (Nat.le_refl _) (fun k e => by cases e))
  have hc0 : w1.cell? ⟨b2, 0, none⟩ = some (.int .i64 (N : Int)) := hb1.cell rfl
  clear hb1 hg1 hs1 hb2e
  go_wp2_with (first
    | ((with_reducible show wpList _ _ _ (Oper.mk _ (Op.makeSlice _ _ _) _ _ _ _ :: _) _ _); refine wpList_make1 uBol3 infoBss rfl (by decide) rfl _ _ rfl N (by omega) rfl rfl ?_)
    | fail)
  intro w2 hb2 hg2 hs2
  obtain ⟨G, hGe⟩ : ∃ G, G = w1.heap.size := ⟨_, rfl⟩
  rw [← hGe] at hb2 ⊢
  have HP2 : Hid (IsP w2 G N n 0) := Lib.hid (IsP.start hb2 (by omega))
  have HW2 : Hid (Below G w1 w2) := Lib.hid (grown_below hg2 (by omega) (fun k e => by cases e))
  have HGE : Hid (G = w1.heap.size) := Lib.hid hGe
  clear hb2 hg2 hs2 hGe hc0
  go_wp2
  go_loopw [7] (fun s7 wr => ∃ k : Nat, k ≤ N ∧ s7 = .int .i64 (k : Int) ∧ IsP wr G N n (k * (n + 1)) ∧ Below G w1 wr) (fun s7 _ => N - (intOf s7).toNat)
  case atStart => exact ⟨0, Nat.zero_le _, rfl, by rw [Nat.zero_mul]; exact HP2.out, HW2.out⟩
  case round =>
    obtain ⟨k, hk, rfl, hp, hbw⟩ := hrel
    have HP := Lib.hid hp
    have HBW := Lib.hid hbw
    have hc0 : wr.cell? ⟨b2, 0, none⟩ = some (.int .i64 (N : Int)) := (HB1.out.below hbw (by rw [HGE.out]; exact HB1.out.lt)).cell rfl
    clear hp hbw HP2 HW2
    by_cases hkN : k < N
    · go_wp2_with (first
        | ((with_reducible show wpList _ _ _ (Oper.mk _ (Op.makeSlice _ _ _) _ _ _ _ :: _) _ _); refine wpList_make1 uBol2 infoBs rfl (by decide) rfl _ _ rfl n (by omega) rfl rfl ?_)
        | fail)
      intro w3 hb3 hg3 hs3
      obtain ⟨gm, hgm⟩ : ∃ g, g = wr.heap.size := ⟨_, rfl⟩
      rw [← hgm] at hb3 ⊢
      have HG3 : Hid (wr.grownBy w3 none ∧ w3.heap.size = wr.heap.size + 1 ∧ gm = wr.heap.size ∧ Blk w3 wr.heap.size (List.replicate n nilS)) := Lib.hid ⟨hg3, hs3, hgm, by rw [← hgm]; exact hb3⟩
      obtain ⟨OL, hOL⟩ : ∃ OL, OL = (List.range N).map fun x => if x * (n + 1) < k * (n + 1) then slS (G + 1 + x * (n + 1)) n else nilS := ⟨_, rfl⟩
      have HOL := Lib.hid hOL
      have HO3 : Hid (Blk w3 G OL ∧ OL.length = N) := Lib.hid ⟨by rw [hOL]; exact HP.out.outer.grown hg3 (fun e => by cases e), by rw [hOL, List.length_map, List.length_range]⟩
      have HKN := Lib.hid hkN
      clear hb3 hg3 hs3 hgm hc0 hOL
      go_wp2_with (first
        | ((with_reducible show wpList _ _ _ (Oper.mk _ (Op.store 101 _ _) _ _ _ _ :: _) _ _); refine wpList_storeZ rfl 101 _ _ rfl G k _ (.slice (some ⟨gm, 0, none⟩) n n) rfl rfl HO3.out.1 (by rw [HO3.out.2]; exact HKN.out) s1Bss rfl ?_)
        | fail)
      intro w4 hb4 hg4 hs4
      have HP4 : Hid (IsP w4 G N n (k * (n + 1) + (0 + 1))) := Lib.hid (by
        rw [Nat.zero_add]
        refine HP.out.name HKN.out HG3.out.2.2.2 HG3.out.1 HG3.out.2.1 ?_ hg4 hs4
        rw [HG3.out.2.2.1, HOL.out] at hb4
        exact hb4)
      have HW4 : Hid (Below G w1 w4) := Lib.hid (by
        have hsz : G ≤ wr.heap.size := Nat.le_of_lt HP.out.outer.lt
        exact below_trans (below_trans HBW.out (grown_below HG3.out.1 hsz (fun k e => by cases e))) (grown_below hg4 (by have := HG3.out.2.1; omega) (fun k e => by injection e with e; omega)))
      clear hb4 hg4 hs4 HO3 HG3
      go_wp2
      go_loopw [8] (fun s8 wr => ∃ m : Nat, m ≤ n ∧ s8 = .int .i64 (m : Int) ∧ IsP wr G N n (k * (n + 1) + (m + 1)) ∧ Below G w1 wr) (fun s8 _ => n - (intOf s8).toNat)
      case atStart => exact ⟨0, Nat.zero_le _, rfl, HP4.out, HW4.out⟩
      case round =>
        obtain ⟨m, hm, rfl, hp, hbw⟩ := hrel
        have HPm := Lib.hid hp
        have HBm := Lib.hid hbw
        clear hp hbw HP4 HW4
        by_cases hmn : m < n
        · obtain ⟨y1, hy1⟩ : ∃ y, y = G + 1 + k * (n + 1) := ⟨_, rfl⟩
          obtain ⟨gw, hgw⟩ : ∃ g, g = wr.heap.size := ⟨_, rfl⟩
          have HY1 := Lib.hid hy1
          have HGW := Lib.hid hgw
          have QK : Hid (k < N) := Lib.hid hkN
          have QM : Hid (m < n) := Lib.hid hmn
          have QN : Hid (n ≤ 1000000) := Lib.hid (by omega)
          have hck : wr.cell? ⟨G, k, none⟩ = some (.slice (some ⟨y1, 0, none⟩) n n) := by
            have := HPm.out.outer.cell (map_range_get hkN _)
            rw [if_pos (by omega), ← hy1] at this
            exact this
          have NK : Hid (∀ L w', JM 6 wr.drew n (.bool false) L w' → w'.cell? ⟨G, k, none⟩ = some (.slice (some ⟨y1, 0, none⟩) n n)) := Lib.hid fun L w' hj => by
            rw [hj.below.cell (p := ⟨G, k, none⟩) HPm.out.outer.lt]
            exact hck
          have JG : Hid (∀ L w', JM 6 wr.drew n (.bool false) L w' → L 6 = false → w'.heap.size = gw) := Lib.hid fun L w' hj hl => by
            rcases hj with ⟨_, rfl⟩ | ⟨h, _⟩
            · exact hgw.symm
            · rw [hl] at h; cases h
          have JN : Hid (∀ L w' w'', JM 6 wr.drew n (.bool false) L w' → L 6 = false → Blk w'' gw (List.replicate n (.bool false)) → w'.grownBy w'' none → w''.heap.size = gw + 1 → JM 6 wr.drew n (.bool false) (upd L 6) w'') := Lib.hid fun L w' w'' hj hl hb hg hs => by
            rcases hj with ⟨_, rfl⟩ | ⟨h, _⟩
            · exact .inr ⟨by simp [upd], by rw [hgw] at hb; exact hb, hg, by rw [hgw] at hs; exact hs⟩
            · rw [hl] at h; cases h
          clear hy1 hgw hck
          go_wp2_with fail
          refine region_tail 8 [.slice (some ⟨G, 0, none⟩) N N, .int .i64 (k : Int), .pointer (some ⟨G, k, none⟩), .slice (some ⟨y1, 0, none⟩) n n, .int .i64 (m : Int), .int .i64 (n : Int), .slice (some ⟨gw, 0, none⟩) n n, .pointer (some ⟨y1, m, none⟩)] [some 36, some 37, some 38, some 39, some 40, some 41, some 42, some 43] (JM 6 wr.drew n (.bool false)) (by kernel_rfl) (by kernel_rfl) (by kernel_rfl) (by kernel_rfl) rfl rfl (.inl ⟨rfl, rfl⟩) (fun ii hii => ?_) ?_
          · match ii, hii with
            | 0, _ => exact vstep_first rfl (vwant_none rfl) (fun _ _ h => h) 6 (Or.inl rfl) (by kernel_rfl) rfl
            | 1, _ => exact vstep_first rfl (vwant_none rfl) (fun _ _ h => h) 7 (Or.inl rfl) (by kernel_rfl) rfl
            | 2, _ => exact vstep_pure rfl (vwant_none rfl) (fun _ _ h => h) (fun LL aa ww cc => ⟨.pointer (some ⟨G, k, none⟩), by have e0 : aa.tmps.getD 36 undef = .slice (some ⟨G, 0, none⟩) N N := cc.slot 0 36 (by kernel_rfl) rfl; have e1 : aa.tmps.getD 37 undef = .int .i64 (k : Int) := cc.slot 1 37 (by kernel_rfl) rfl; have q := QK.out; simp only [execOp, Act.eval, e0, e1]; go_simp, rfl⟩)
            | 3, _ => exact vstep_pure rfl (vwant_none rfl) (fun _ _ h => h) (fun LL aa ww cc => ⟨.slice (some ⟨y1, 0, none⟩) n n, by have e0 : aa.tmps.getD 38 undef = .pointer (some ⟨G, k, none⟩) := cc.slot 2 38 (by kernel_rfl) rfl; have q := NK.out _ _ cc.world; simp only [execOp, Act.eval, e0]; go_simp, rfl⟩)
            | 4, _ => exact vstep_first rfl (vwant_none rfl) (fun _ _ h => h) 8 (Or.inl rfl) (by kernel_rfl) rfl
            | 5, _ => exact vstep_first rfl (vwant_none rfl) (fun _ _ h => h) 5 (Or.inl rfl) (by kernel_rfl) rfl
            | 6, _ => exact vstep_make1 rfl 41 _ rfl uBol1 infoBool rfl (by decide) (vwant_none rfl) n QN.out (fun LL aa ww cc => cc.slot 5 41 (by kernel_rfl) rfl) gw (fun L w hj hl => JG.out L w hj hl) rfl (fun L w w1 hj hl hb hg hs => JN.out L w w1 hj hl hb hg hs)
            | 7, _ => exact vstep_pure rfl (vwant_none rfl) (fun _ _ h => h) (fun LL aa ww cc => ⟨.pointer (some ⟨y1, m, none⟩), by have e0 : aa.tmps.getD 39 undef = .slice (some ⟨y1, 0, none⟩) n n := cc.slot 3 39 (by kernel_rfl) rfl; have e1 : aa.tmps.getD 40 undef = .int .i64 (m : Int) := cc.slot 4 40 (by kernel_rfl) rfl; have q := QM.out; simp only [execOp, Act.eval, e0, e1]; go_simp, rfl⟩)
            | n + 8, h => exact absurd h (by show ¬ (n + 8 < 8); omega)
          · intro L9 w6 hall hj6
            have HJ6 : Hid (Blk w6 wr.heap.size (List.replicate n (.bool false)) ∧ wr.grownBy w6 none ∧ w6.heap.size = wr.heap.size + 1) := Lib.hid (by
              rcases hj6 with ⟨h, _⟩ | ⟨_, h⟩
              · rw [hall 6 (by decide)] at h; cases h
              · exact ⟨h.1, ⟨h.2.1.os, h.2.1.tape, h.2.1.output, h.2.1.size, h.2.1.block⟩, h.2.2⟩)
            obtain ⟨ML, hML⟩ : ∃ ML, ML = (List.range n).map fun i => if k * (n + 1) + (i + 1) < k * (n + 1) + (m + 1) then slS (G + 1 + (k * (n + 1) + (i + 1))) n else nilS := ⟨_, rfl⟩
            have HML := Lib.hid hML
            have HM6 : Hid (Blk w6 y1 ML ∧ ML.length = n) := Lib.hid ⟨by
              rw [HY1.out, hML]
              exact (HPm.out.mid k (by omega)).grown HJ6.out.2.1 (fun e => by cases e), by rw [hML, List.length_map, List.length_range]⟩
            clear hj6 hall NK JG JN hML
            simp only [List.zip_cons_cons, List.zip_nil_right, putsL]
            go_simp
            go_wp2_with (first
              | ((with_reducible show wpList _ _ _ (Oper.mk _ (Op.store 102 _ _) _ _ _ _ :: _) _ _); refine wpList_storeZ rfl 102 _ _ rfl y1 m _ (.slice (some ⟨gw, 0, none⟩) n n) rfl rfl HM6.out.1 (by rw [HM6.out.2]; exact QM.out) s1Bs rfl ?_)
              | fail)
            intro w7 hb7 hg7 hs7
            have HP7 : Hid (IsP w7 G N n (k * (n + 1) + (m + 1 + 1))) := Lib.hid (by
              rw [HY1.out] at hb7 hg7
              rw [HGW.out, HML.out] at hb7
              exact HPm.out.row QK.out QM.out HJ6.out.1 HJ6.out.2.1 HJ6.out.2.2 hb7 hg7 hs7)
            have HW7 : Hid (Below G w1 w7) := Lib.hid (by
              have hsz : G ≤ wr.heap.size := Nat.le_of_lt HPm.out.outer.lt
              exact below_trans (below_trans HBm.out (grown_below HJ6.out.2.1 hsz (fun k e => by cases e))) (grown_below hg7 (by have := HJ6.out.2.2; omega) (fun k e => by injection e with e; have := HY1.out; omega)))
            clear hb7 hg7 hs7
            go_wp2
            go_roundw
            case rel => exact ⟨m + 1, by omega, by go_num, HP7.out, HW7.out⟩
            case measure => simp [intOf]; omega
        · have HPE : Hid (IsP wr G N n ((k + 1) * (n + 1))) := Lib.hid (by
            have e : m = n := by omega
            have := HPm.out
            rw [e] at this
            rw [Nat.add_mul, Nat.one_mul]
            exact this)
          go_wp2
          go_roundw
          case rel => exact ⟨k + 1, by omega, by go_num, HPE.out, HBm.out⟩
          case measure => simp [intOf]; omega
    · have HD0 : Hid (IsD wr G N n fun _ _ _ => false) := Lib.hid (by
        have e : k = N := by omega
        have := HP.out
        rw [e] at this
        exact this.done)
      obtain ⟨w5, rfl⟩ : ∃ w5, w5 = wr := ⟨_, rfl⟩
      clear HP
      go_wp2
      clear hc0
      obtain ⟨k0, hk0⟩ : ∃ k0, k0 = 2 * ((trips N n).length - cntT N n fun _ _ _ => false) + 1 := ⟨_, rfl⟩
      have HK0 := Lib.hid hk0
      clear hk0
      go_loopg [9] k0 (fun kk s9 wr => ∃ (is : Nat → Nat → Nat → Bool) (gr : Bool), s9 = .bool gr ∧ IsD wr G N n is ∧ (gr = false → Closed is (byts s) (fms M)) ∧ kk = 2 * ((trips N n).length - cntT N n is) + (if gr = true then 1 else 0) ∧ Below G w1 wr)
      case atStart => exact ⟨_, true, rfl, HD0.out, fun e => (by cases e), by rw [HK0.out, if_pos rfl], HBW.out⟩
      case round =>
        obtain ⟨is0, gr, rfl, hd, hcl, hkk, hbw⟩ := hrel
        have HD := Lib.hid hd
        have HCL := Lib.hid hcl
        have HKK := Lib.hid hkk
        have HBR := Lib.hid hbw
        have HWr : Hid (Below w.heap.size w wr) := Lib.hid (below_trans HW1.out (hbw.mono (by rw [HGE.out]; exact HW1.out.size)))
        clear hd hcl hkk hbw HD0 HBW
        cases gr with
        | false =>
          have htl : tl < n := by have := HN.out; omega
          have hN0 : 0 < N := HN1.out
          obtain ⟨y1, hy1⟩ : ∃ y, y = G + 1 + 0 * (n + 1) := ⟨_, rfl⟩
          obtain ⟨y2, hy2⟩ : ∃ y, y = G + 1 + (0 * (n + 1) + (0 + 1)) := ⟨_, rfl⟩
          have hn0 : 0 < n := by omega
          have hc1 := HD.out.c1 hN0
          have hc2 := HD.out.c2 hN0 hn0
          have hc3 := HD.out.c3 hN0 hn0 htl
          have hyes : is0 0 0 tl = true := by
            have h := HDB.out.ends (HCL.out rfl) [] [] (by simp)
            have h0 : ¬ (⟨0, 0, 0⟩ : Sgn).name < 0 := by decide
            have h := (ends_name h0).1 h
            have h := h.2.2
            simp only [List.length_nil, Nat.zero_add] at h
            rw [HTL.out.2]
            exact h
          rw [← hy1] at hc1 hc2
          rw [← hy2] at hc2 hc3
          rw [hyes] at hc3
          clear hy1 hy2 hyes
          go_wp2
          go_ret
          exact ⟨rfl, HWr.out⟩
        | true =>
          go_wp2
          have HCN : Hid (cntT N n is0 ≤ (trips N n).length) := Lib.hid (cntT_le _ _ _)
          go_loopw [9, 10] (fun s9 s10 wr => ∃ (q : Nat) (is : Nat → Nat → Nat → Bool) (gr : Bool), q ≤ nf ∧ s10 = .int .i64 (q : Int) ∧ s9 = .bool gr ∧ IsD wr G N n is ∧ InvT N n is0 is gr ∧ (gr = false → ClT is0 (byts s) (fms M) q 0 0) ∧ Below G w1 wr) (fun _ s10 _ => nf - (intOf s10).toNat)
          case atStart => exact ⟨0, is0, false, Nat.zero_le _, rfl, rfl, HD.out, ⟨fun e => (by cases e), fun _ => rfl⟩, fun _ => ClT.zero, HBR.out⟩
          case round =>
            obtain ⟨q, is, gr, hq, rfl, rfl, hd, hiv, hcl, hbw⟩ := hrel
            have HDq := Lib.hid hd
            have HIVq := Lib.hid hiv
            have HCLq := Lib.hid hcl
            have HBq := Lib.hid hbw
            have hcF : wr.cell? ⟨b2, 1, none⟩ = some (.slice A nf c) := (HB1.out.below hbw (by rw [HGE.out]; exact HB1.out.lt)).cell rfl
            clear hd hiv hcl hbw HD HCL HBR HWr
            by_cases hqn : q < nf
            · have hql : q < M.length := by rw [← HNF.out.1]; exact hqn
              obtain ⟨g, kk, hA, hgB, hgs, hrow⟩ := HR.out.rows (by rintro rfl; simp at hql)
              subst hA
              obtain ⟨p, hp⟩ : ∃ p, p = M[q] := ⟨_, rfl⟩
              have HPM : Hid (p ∈ M ∧ p.1 ∈ fms M ∧ ∀ h : q < (fms M).length, (fms M)[q] = p.1) := Lib.hid ⟨by rw [hp]; exact List.getElem_mem hql, List.mem_map.2 ⟨p, by rw [hp]; exact List.getElem_mem hql, rfl⟩, fun h => by rw [hp]; simp [fms]⟩
              have HROW : Hid (w.rangeAt g (kk + q * 2) (frv p.1 p.2.1 p.2.2) ∧ g < w.heap.size) := Lib.hid ⟨by rw [hp]; exact hrow q hql, hgs⟩
              have HQN := Lib.hid hqn
              clear hp hql hgB hgs hrow
              go_wp2
              clear hcF
              go_loopw [9, 11] (fun s9 s11 wr => ∃ (i : Nat) (is : Nat → Nat → Nat → Bool) (gr : Bool), i ≤ n ∧ s11 = .int .i64 (i : Int) ∧ s9 = .bool gr ∧ IsD wr G N n is ∧ InvT N n is0 is gr ∧ (gr = false → ClT is0 (byts s) (fms M) q i 0) ∧ Below G w1 wr) (fun _ s11 _ => n - (intOf s11).toNat)
              case atStart => exact ⟨0, is, gr, Nat.zero_le _, rfl, rfl, HDq.out, HIVq.out, HCLq.out, HBq.out⟩
              case round =>
                obtain ⟨i, is, gr, hi, rfl, rfl, hd, hiv, hcl, hbw⟩ := hrel
                have HDi := Lib.hid hd
                have HIVi := Lib.hid hiv
                have HCLi := Lib.hid hcl
                have HBi := Lib.hid hbw
                have HWi : Hid (Below w.heap.size w wr) := Lib.hid (below_trans HW1.out (hbw.mono (by rw [HGE.out]; exact HW1.out.size)))
                have hcF : wr.cell? ⟨b2, 1, none⟩ = some (.slice (some ⟨g, kk, none⟩) nf c) := (HB1.out.below hbw (by rw [HGE.out]; exact HB1.out.lt)).cell rfl
                clear hd hiv hcl hbw HDq HIVq HCLq HBq
                by_cases hin : i < n
                · obtain ⟨Ab, hAb⟩ : ∃ Ab, Ab = p.2.1 := ⟨_, rfl⟩
                  obtain ⟨cb, hcb⟩ : ∃ cb, cb = p.2.2 := ⟨_, rfl⟩
                  obtain ⟨bd, hbd⟩ : ∃ bd, bd = p.1.body := ⟨_, rfl⟩
                  obtain ⟨bl, hbl⟩ : ∃ bl, bl = bd.length := ⟨_, rfl⟩
                  have HBD : Hid (bl = bd.length ∧ bd = p.1.body ∧ Ab = p.2.1) := Lib.hid ⟨hbl, hbd, hAb⟩
                  have hcB : wr.cell? ⟨g, kk + q * 2 + 1, none⟩ = some (.slice Ab bl cb) := (range_below HROW.out.1 HWi.out HROW.out.2) 1 _ (by rw [hAb, hbl, hbd, hcb]; rfl)
                  have HIN := Lib.hid hin
                  clear hAb hcb hbd hbl
                  go_wp2_with fail
                  clear hcB hcF
                  rw [HBD.out.1, HTL.out.1]
                  refine (ends_calls wr G N n is Ab A1 cb c1 bd s i HDi.out (by rw [HBD.out.2.1, HBD.out.2.2]; exact ((HR.out.body p HPM.out.1).below HWi.out (Nat.le_refl _)).mono HWi.out.size) ((HS.out.below HWi.out).mono HWi.out.size) (by rw [← HTL.out.1]; exact HN.out) (by have := HN.out; have := HTL.out.1; omega) (by rw [HBD.out.2.1]; exact HGS.out.body _ HPM.out.2.1) (by have := HN.out; have := HTL.out.1; have := HIN.out; omega) (fun x hx => HGS.out.sign _ HPM.out.2.1 x (by rw [← HBD.out.2.1]; exact hx))).mono ?_
                  rw [← HBD.out.1, ← HTL.out.1]
                  rintro e w6 ⟨gv, v, rfl, hvl, hbv, hve, hgv, hb6⟩
                  have HGV : Hid (∀ x i, x < N → i < n → G + 1 + (x * (n + 1) + (i + 1)) ≠ gv) := Lib.hid fun x i hx hi e => by
                    have h1 := (HDi.out.leaf x i hx hi).lt
                    omega
                  have HVL := Lib.hid hvl
                  have HBV := Lib.hid hbv
                  have HVE : Hid (gr = false → ∀ j, j < n → (v.getD j false = true ↔ EndsR is0 (byts s) bd i j)) := Lib.hid fun e => by
                    have := HIVi.out.2 e
                    rw [← this]
                    exact hve
                  have HD6 : Hid (IsD w6 G N n is) := Lib.hid (HDi.out.below hb6)
                  have HB6 : Hid (Below G w1 w6) := Lib.hid (below_trans HBi.out (hb6.mono (Nat.le_of_lt HDi.out.outer.lt)))
                  clear hvl hbv hve hgv hb6 HDi HBi HWi
                  go_wp2
                  go_loopw [9, 13] (fun s9 s13 wr => ∃ (j : Nat) (is : Nat → Nat → Nat → Bool) (gr : Bool), j ≤ n ∧ s13 = .int .i64 (j : Int) ∧ s9 = .bool gr ∧ IsD wr G N n is ∧ InvT N n is0 is gr ∧ (gr = false → ClT is0 (byts s) (fms M) q i j) ∧ (gr = false → ∀ j, j < n → (v.getD j false = true ↔ EndsR is0 (byts s) bd i j)) ∧ Blk wr gv (bcs v) ∧ Below G w1 wr) (fun _ s13 _ => n - (intOf s13).toNat)
                  case atStart => exact ⟨i, is, gr, Nat.le_of_lt HIN.out, rfl, rfl, HD6.out, HIVi.out, fun e => (HCLi.out e).skip, HVE.out, HBV.out, HB6.out⟩
                  case round =>
                    obtain ⟨j, is, gr, hj, rfl, rfl, hd, hiv, hcl, hve, hbv, hbw⟩ := hrel
                    have HDj := Lib.hid hd
                    have HIVj := Lib.hid hiv
                    have HCLj := Lib.hid hcl
                    have HVEj := Lib.hid hve
                    have HBVj := Lib.hid hbv
                    have HBj := Lib.hid hbw
                    have HWj : Hid (Below w.heap.size w wr) := Lib.hid (below_trans HW1.out (hbw.mono (by rw [HGE.out]; exact HW1.out.size)))
                    have hcF : wr.cell? ⟨b2, 1, none⟩ = some (.slice (some ⟨g, kk, none⟩) nf c) := (HB1.out.below hbw (by rw [HGE.out]; exact HB1.out.lt)).cell rfl
                    clear hd hiv hcl hve hbv hbw HD6 HIVi HCLi HVE HBV HB6
                    by_cases hjn : j < n
                    · have HJN := Lib.hid hjn
                      obtain ⟨vj, hvj⟩ : ∃ vj, vj = v.getD j false := ⟨_, rfl⟩
                      have HVJ := Lib.hid hvj
                      have hcv : wr.cell? ⟨gv, j, none⟩ = some (.bool vj) := HBVj.out.cell (by rw [hvj]; exact bcs_get (by rw [HVL.out]; exact hjn))
                      clear hvj
                      cases vj with
                      | false =>
                        have HCE : Hid (gr = false → ClT is0 (byts s) (fms M) q i (j + 1)) := Lib.hid fun e => (HCLj.out e).step fun hp hh => by
                          rw [HPM.out.2.2 hp, ← HBD.out.2.1] at hh
                          have := (HVEj.out e j HJN.out).2 hh
                          rw [← HVJ.out] at this
                          cases this
                        go_wp2
                        clear hcv hcF
                        go_roundw
                        case rel => exact ⟨j + 1, is, gr, by omega, by go_num, rfl, HDj.out, HIVj.out, HCE.out, HVEj.out, HBVj.out, HBj.out⟩
                        case measure => simp [intOf]; omega
                      | true =>
                        obtain ⟨fn, hfn⟩ : ∃ fn, fn = p.1.name := ⟨_, rfl⟩
                        have HFN : Hid (fn = p.1.name ∧ fn < N) := Lib.hid ⟨hfn, by rw [hfn]; exact HGS.out.name _ HPM.out.2.1⟩
                        have hfnN : fn < N := HFN.out.2
                        have hinC : i < n := HIN.out
                        have hcN : wr.cell? ⟨g, kk + q * 2, none⟩ = some (.int .i64 (fn : Int)) := (range_below HROW.out.1 HWj.out HROW.out.2) 0 _ (by rw [hfn]; rfl)
                        obtain ⟨ib, hib⟩ : ∃ ib, ib = is fn i j := ⟨_, rfl⟩
                        have HIB := Lib.hid hib
                        have hc1 := HDj.out.c1 hfnN
                        have hc2 := HDj.out.c2 hfnN hinC
                        have hc3 := HDj.out.c3 hfnN hinC hjn
                        rw [← hib] at hc3
                        obtain ⟨y1, hy1⟩ : ∃ y, y = G + 1 + fn * (n + 1) := ⟨_, rfl⟩
                        obtain ⟨y2, hy2⟩ : ∃ y, y = G + 1 + (fn * (n + 1) + (i + 1)) := ⟨_, rfl⟩
                        have HY2 : Hid (y2 = G + 1 + (fn * (n + 1) + (i + 1)) ∧ y2 ≠ gv) := Lib.hid ⟨hy2, by rw [hy2]; exact HGV.out fn i hfnN hinC⟩
                        rw [← hy1] at hc1 hc2
                        rw [← hy2] at hc2 hc3
                        clear hfn hib hy1 hy2
                        cases ib with
                        | true =>
                          have HCE : Hid (gr = false → ClT is0 (byts s) (fms M) q i (j + 1)) := Lib.hid fun e => (HCLj.out e).step fun hp _ => by
                            rw [HPM.out.2.2 hp, ← HFN.out.1, ← HIVj.out.2 e]
                            exact HIB.out.symm
                          go_wp2
                          clear hcv hcF hcN hc1 hc2 hc3
                          go_roundw
                          case rel => exact ⟨j + 1, is, gr, by omega, by go_num, rfl, HDj.out, HIVj.out, HCE.out, HVEj.out, HBVj.out, HBj.out⟩
                          case measure => simp [intOf]; omega
                        | false =>
                          obtain ⟨LL, hLL⟩ : ∃ LL, LL = (List.range n).map fun j => Value.bool (is fn i j) := ⟨_, rfl⟩
                          have HLL := Lib.hid hLL
                          have HLB : Hid (Blk wr y2 LL ∧ LL.length = n) := Lib.hid ⟨by rw [hLL, HY2.out.1]; exact HDj.out.leaf fn i hfnN hinC, by rw [hLL, List.length_map, List.length_range]⟩
                          clear hLL
                          go_wp2_with (first
                            | ((with_reducible show wpList _ _ _ (Oper.mk _ (Op.store 4 _ _) _ _ _ _ :: _) _ _); refine wpList_storeB rfl 4 _ _ rfl y2 j _ (.bool true) rfl rfl HLB.out.1 (by rw [HLB.out.2]; exact HJN.out) s1Bl rfl ?_)
                            | fail)
                          intro w7 hb7 hg7
                          have HD7 : Hid (IsD w7 G N n (updT is fn i j)) := Lib.hid (HDj.out.store HFN.out.2 HIN.out (by rw [← HY2.out.1]; exact hg7) (by rw [← HLL.out, ← HY2.out.1]; exact hb7))
                          have HI7 : Hid (InvT N n is0 (updT is fn i j) true) := Lib.hid (invT_upd HIVj.out HFN.out.2 HIN.out HJN.out HIB.out.symm)
                          have HB7 : Hid (Blk w7 gv (bcs v)) := Lib.hid (HBVj.out.grown hg7 (fun e => by injection e with e; exact HY2.out.2 e))
                          have HW7 : Hid (Below G w1 w7) := Lib.hid (below_trans HBj.out (grown_below hg7 (Nat.le_of_lt HDj.out.outer.lt) fun k e => by injection e with e; have := HY2.out.1; omega))
                          clear hb7 hg7 hcv hcF hcN hc1 hc2 hc3
                          go_wp2
                          go_roundw
                          case rel => exact ⟨j + 1, _, true, by omega, by go_num, rfl, HD7.out, HI7.out, fun e => (by cases e), fun e => (by cases e), HB7.out, HW7.out⟩
                          case measure => simp [intOf]; omega
                    · have HCE : Hid (gr = false → ClT is0 (byts s) (fms M) q (i + 1) 0) := Lib.hid fun e => by
                        have h := HCLj.out e
                        exact h.nextPlace (by have := HTL.out.2; have := HN.out; omega)
                      go_wp2
                      clear hcF
                      go_roundw
                      case rel => exact ⟨i + 1, is, gr, by have := HIN.out; omega, by go_num, rfl, HDj.out, HIVj.out, HCE.out, HBj.out⟩
                      case measure => simp [intOf]; omega
                · have HCE : Hid (gr = false → ClT is0 (byts s) (fms M) (q + 1) 0 0) := Lib.hid fun e => by
                    have h := HCLi.out e
                    exact h.nextForm (by have := HTL.out.2; have := HN.out; omega)
                  go_wp2
                  clear hcF
                  go_roundw
                  case rel => exact ⟨q + 1, is, gr, by have := HQN.out; omega, by go_num, rfl, HDi.out, HIVi.out, HCE.out, HBi.out⟩
                  case measure => simp [intOf]; omega
            · have HST : Hid ((gr = false → Closed is (byts s) (fms M)) ∧ 2 * ((trips N n).length - cntT N n is) + (if gr = true then 1 else 0) < gk) := Lib.hid (by
                have e : q = (fms M).length := by have := HNF.out.2; omega
                have hk := HKK.out
                rw [if_pos trivial] at hk
                refine ⟨fun hg => ?_, ?_⟩
                · have h1 := HIVq.out.2 hg
                  have h2 := HCLq.out hg
                  rw [e] at h2
                  rw [h1]
                  exact h2.closed
                · cases gr with
                  | false =>
                    have h1 := HIVq.out.2 rfl
                    rw [h1, hk]
                    simp
                  | true =>
                    have h1 := HIVq.out.1 rfl
                    have h2 := cntT_le N n is
                    rw [if_pos rfl]
                    omega)
              go_wp2
              clear hcF
              go_roundg (2 * ((trips N n).length - cntT N n is) + (if gr = true then 1 else 0))
              case measure => exact HST.out.2
              case rel => exact ⟨is, gr, rfl, HDq.out, HST.out.1, rfl, HBq.out⟩
end Go.Proofs.YtiebpmpjclnpeaaDoor
/- What a conversion of bytes to a string gives, and when two such strings are one. -/
namespace Go.Proofs.YtiebpmpjclnpeaaDoor
open Go.RowKit Nac
/-- bytes as a string -/
def strB (l : List UInt8) : ByteArray := ⟨l.toArray⟩
theorem strB_inj (l m : List UInt8) : (strB l = strB m) ↔ l = m := by
  constructor
  · intro h
    have := congrArg ByteArray.data h
    simpa [strB] using this
  · rintro rfl; rfl
theorem strB_toList (l : List UInt8) : (strB l).toList = l := by
  show ByteArray.toList _ = _
  rw [ByteArray.toList_eq]
  rfl
theorem strNums (l : List UInt8) : strOfNums (l.map fun x => (x.toNat : Int)) = strB l := by
  unfold strOfNums strB
  congr 1
  congr 1
  rw [List.map_map]
  have : (fun n : Int => UInt8.ofNat n.toNat) ∘ (fun x : UInt8 => (x.toNat : Int)) = id := by
    funext x
    simp
  rw [this, List.map_id]
theorem run_conv (w : World) {B : Nat} {A : Option Addr} {l : List UInt8} (h : RB w B A l) (n c : Nat) (hn : n = l.length) :
    (convert 40 9 (.slice A n c)).run Tryd.prog w = .ok (.string (strB l)) w := by
  subst hn
  by_cases hl : l = []
  · subst hl
    cases A with
    | none => exact run_convert_bytes_nil w 40 5 Tryd.underlying40 Tryd.underlying5 _ _ 9 Tryd.underlying9
    | some a =>
      rw [run_convert_bytes_string w 40 9 5 (some a) _ c Tryd.underlying40 Tryd.underlying5 Tryd.underlying9,
        run_bytesToString w a _ c [] (by simp [loadCells, loadCellsFrom])]
      rfl
  · obtain ⟨b, o, rfl, _, hc⟩ := h hl
    have := run_convert_bytes_arg (P := Tryd.prog) w 40 5 Tryd.underlying40 Tryd.underlying5 b o l.length c (l.map fun x => (x.toNat : Int)) (by simp)
      (fun i hi => by rw [hc i hi]; simp [hi]) 9 Tryd.underlying9
    rw [this, strNums]
end Go.Proofs.YtiebpmpjclnpeaaDoor
/- Bytes in regions that draw. -/
namespace Go.Proofs.YtiebpmpjclnpeaaDoor
open Go.RowKit Nac
/-- v is a slice of bytes that reads l -/
def RBy (l : List UInt8) (v : Value) (w : World) : Prop := ∃ A c, v = .slice A l.length c ∧ RB w w.heap.size A l
theorem rby_mono (l : List UInt8) : ∀ v w w', RBy l v w → Below w.heap.size w w' → RBy l v w' := fun _ _ _ ⟨A, c, h1, h3⟩ hb => ⟨A, c, h1, (h3.below hb).mono hb.size⟩
def byt (l : List UInt8) : VD := .pr (RBy l) (rby_mono l)
section
variable {ops : Array Oper} {Q : Exit → Act → World → Prop} {D : Nat → VD} {a0 : Act} {W0 : World} {i : Nat} {o : Oper}
theorem mstep_conv (ho : ops[i]? = some o) (hw : ∀ a w, MCtx ops D a0 W0 i a w → Region.wanted o (yielded ops a.tmps) = true) (x : Tmp) (hop : o.op = .convert 40 9 (.tmp x))
    (kx : Nat) (hkx : (preds ops 3 i).contains kx = true) (hx : dstOf ops kx = some x) (l : List UInt8) (hDx : D kx = byt l) (hD : D i = .is (.string (strB l))) : MStep Tryd.prog ops Q D a0 W0 i :=
  mstep_one ho hw x kx hkx hx fun a w h => by
    rw [hDx] at h
    obtain ⟨A, c, h1, h3⟩ := h
    refine ⟨.string (strB l), ?_, by rw [hD]; rfl⟩
    simp only [execOp, hop, Act.eval, h1]
    rw [Sem.run_bind, run_conv w h3 l.length c rfl]
    rfl
theorem mstep_len (ho : ops[i]? = some o) (hw : ∀ a w, MCtx ops D a0 W0 i a w → Region.wanted o (yielded ops a.tmps) = true) (x : Tmp) (hop : o.op = .call { callee := .builtin .len, args := #[.tmp x], argTypes := #[40] })
    (kx : Nat) (hkx : (preds ops 3 i).contains kx = true) (hx : dstOf ops kx = some x) (l : List UInt8) (hDx : D kx = byt l) (hD : D i = .is (.int .i64 l.length)) : MStep Tryd.prog ops Q D a0 W0 i :=
  mstep_one ho hw x kx hkx hx fun a w h => by
    rw [hDx] at h
    obtain ⟨A, c, h1, h3⟩ := h
    refine ⟨.int .i64 l.length, ?_, by rw [hD]; rfl⟩
    simp [execOp, hop, Act.eval, h1, resolve, invoke, builtin, Builtin.len_, goInt]
end
end Go.Proofs.YtiebpmpjclnpeaaDoor
/- Slices of bytes that came in: the operation, in a walk and in a region that draws. -/
namespace Nac
open Go
theorem RB.cut {w : World} {B : Nat} {A : Option Addr} {l : List UInt8} (h : RB w B A l) (lo hi c : Nat) (hle : lo ≤ hi) (hhl : hi ≤ l.length) (hlc : l.length ≤ c) :
    RB w B (if c = lo then A else A.map (·.add (lo * 1))) ((l.take hi).drop lo) := fun hne => by
  have hlt : lo < hi := by
    rcases Nat.lt_or_ge lo hi with h | h
    · exact h
    · exact absurd (List.drop_of_length_le (by simp; omega)) hne
  obtain ⟨b, o, rfl, hb, hc⟩ := h (by rintro rfl; simp at hne)
  rw [if_neg (by omega)]
  refine ⟨b, o + lo, ?_, hb, fun j hj => ?_⟩
  · simp only [Option.map_some, Nat.mul_one]
    unfold Addr.add
    split
    · subst lo; rfl
    · rfl
  · have := hc (lo + j) (by simp at hj; omega)
    rw [List.getElem_drop, List.getElem_take, ← this, Nat.add_assoc]
end Nac
namespace Go.Proofs.YtiebpmpjclnpeaaDoor
open Go.RowKit Nac
theorem run_cut (w : World) (A : Option Addr) (n c : Nat) (hlc : n ≤ c) (lv hv : Option Value) (lo hi : Nat) (h1 : (lv = none ∧ lo = 0) ∨ lv = some (.int .i64 lo)) (h2 : (hv = none ∧ hi = n) ∨ hv = some (.int .i64 hi)) (hle : lo ≤ hi) (hhl : hi ≤ n) :
    (Instr.sliceAt 40 (.slice A n c) lv hv none).run Tryd.prog w = .ok (.slice (if c = lo then A else A.map (·.add (lo * 1))) (hi - lo) (c - lo)) w := by
  have hu := Tryd.underlying40
  have hc1 : (sizeOf 5).run Tryd.prog w = .ok 1 w := by
    obtain ⟨i, hi, _, hs, _⟩ := info_parts Tryd.infoByte
    simp [sizeOf, typeInfo, hi, hs]
  have a5 : hi ≤ c := by omega
  have a6 : lo ≤ n := by omega
  rcases h1 with ⟨rfl, rfl⟩ | rfl <;> rcases h2 with ⟨rfl, rfl⟩ | rfl <;>
    simp [Instr.sliceAt, Instr.slice, run_underlying hu, Instr.sliceBounds, Instr.sliceBound, asIntOf, hc1, a5, a6, hle]
/-- in a walk: what follows is told of whatever slice comes of it -/
theorem wpList_cut (w : World) {ops : Array Oper} {rest : List Oper} {o : Oper} {a : Act} {Q : Exit → Act → World → Prop} (hg : o.guard = none ∨ Region.wanted o (yielded ops a.tmps) = true) (x : Operand) (lO hO : Option Operand) (hop : o.op = .slice 40 x lO hO none)
    (B : Nat) (A : Option Addr) (n c : Nat) (l : List UInt8) (hn : n = l.length) (hx : a.eval x = .slice A n c) (h : RB w B A l) (hlc : l.length ≤ c) (lo hi : Nat) (h1 : (lO.map a.eval = none ∧ lo = 0) ∨ lO.map a.eval = some (.int .i64 lo)) (h2 : (hO.map a.eval = none ∧ hi = n) ∨ hO.map a.eval = some (.int .i64 hi)) (hle : lo ≤ hi) (hhl : hi ≤ n)
    (hK : ∀ A' m L, Hid (L = (l.take hi).drop lo) → Hid (m = hi - lo) → m = L.length → RB w B A' L → wpList Tryd.prog ops Q rest (a.put o.dst (.slice A' L.length (c - lo))) w) : wpList Tryd.prog ops Q (o :: rest) a w := by
  subst hn
  have hw : Region.wanted o (yielded ops a.tmps) = true := by
    rcases hg with hg | hg
    · simp [Region.wanted, hg]
    · exact hg
  unfold wpList
  rw [if_pos hw]
  refine Or.inl ?_
  unfold Oper.wp
  have hr := run_cut w A l.length c hlc (lO.map a.eval) (hO.map a.eval) lo hi h1 h2 hle hhl
  have hl : ((l.take hi).drop lo).length = hi - lo := by simp; omega
  have e : (execOp a.eval o).run Tryd.prog w = .ok (.value (.slice (if c = lo then A else A.map (·.add (lo * 1))) (hi - lo) (c - lo))) w := by
    simp only [execOp, hop, hx]
    rw [Sem.run_bind, Option.map_none, hr]
    rfl
  rw [e]
  have := hK _ _ _ rfl rfl hl.symm (h.cut lo hi c hle hhl hlc)
  rw [hl] at this
  exact this
/-- v is a slice of bytes that reads l, within its capacity -/
def RByc (l : List UInt8) (v : Value) (w : World) : Prop := ∃ A c, v = .slice A l.length c ∧ l.length ≤ c ∧ RB w w.heap.size A l
theorem rbyc_mono (l : List UInt8) : ∀ v w w', RByc l v w → Below w.heap.size w w' → RByc l v w' := fun _ _ _ ⟨A, c, h1, h2, h3⟩ hb => ⟨A, c, h1, h2, (h3.below hb).mono hb.size⟩
def byc (l : List UInt8) : VD := .pr (RByc l) (rbyc_mono l)
section
variable {ops : Array Oper} {Q : Exit → Act → World → Prop} {D : Nat → VD} {a0 : Act} {W0 : World} {i : Nat} {o : Oper}
theorem mstep_cutto (ho : ops[i]? = some o) (hw : ∀ a w, MCtx ops D a0 W0 i a w → Region.wanted o (yielded ops a.tmps) = true) (x y : Tmp) (hop : o.op = .slice 40 (.tmp x) none (some (.tmp y)) none)
    (kx ky : Nat) (hkx : (preds ops 3 i).contains kx = true) (hky : (preds ops 3 i).contains ky = true) (hx : dstOf ops kx = some x) (hy : dstOf ops ky = some y) (l m : List UInt8) (hi : Nat) (hDx : D kx = byc l) (hDy : D ky = .is (.int .i64 hi)) (hhi : hi ≤ l.length) (hm : m = l.take hi) (hD : D i = byt m) : MStep Tryd.prog ops Q D a0 W0 i :=
  mstep_pure ho hw fun a w k => by
    have g1 := k.pred kx x (by simpa using hkx) hx
    rw [hDx] at g1
    obtain ⟨A, c, h1, h2, h3⟩ := g1
    have g2 := k.pred ky y (by simpa using hky) hy
    rw [hDy] at g2
    have g2 : a.tmps.getD y undef = .int .i64 hi := g2
    have hr := run_cut w A l.length c h2 none (some (.int .i64 hi)) 0 hi (Or.inl ⟨rfl, rfl⟩) (Or.inr rfl) (Nat.zero_le _) hhi
    refine ⟨.slice (if c = 0 then A else A.map (·.add (0 * 1))) (hi - 0) (c - 0), ?_, ?_⟩
    · simp only [execOp, hop, Act.eval, h1, g2, Option.map_none, Option.map_some]
      rw [Sem.run_bind, hr]
      rfl
    · rw [hD]
      have hl : m.length = hi := by rw [hm]; simp; omega
      refine ⟨if c = 0 then A else A.map (·.add (0 * 1)), c - 0, by rw [hl]; rfl, ?_⟩
      have := h3.cut 0 hi c (Nat.zero_le _) hhi h2
      rw [List.drop_zero, ← hm] at this
      exact this
end
end Go.Proofs.YtiebpmpjclnpeaaDoor
