/- procs: without, by slices.DeleteFunc. -/
import Derived.Test.YtgeffkdobnipgaaProcIdx
import Derived.Lib.SliceRun
namespace Nac
open Go Go.RowKit
theorem Row.setOut {e : TypeId} {c n g : Nat} {xs : List Value} : ∀ (vs : List Value) (o : Nat) {w : World}, Row w e 1 (some ⟨g, 0, none⟩) c n xs → n ≤ o → Row (w.setCells g o vs) e 1 (some ⟨g, 0, none⟩) c n xs
  | [], _, _, h, _ => h
  | v :: vs, o, w, h, ho => by
    rw [World.setCells]
    have h1 := h.set o v
    rw [List.set_eq_of_length_le (by rw [h.len]; omega)] at h1
    exact Row.setOut vs (o + 1) h1 (by omega)
end Nac
namespace Go.Proofs.Ytgeffkdobnipgaa
open Go.RowKit Nac Nac.Procs
theorem without_snoc (l : List Nat) (p j : Nat) (h : j < l.length) : without (l.take (j + 1)) p = without (l.take j) p ++ (if l[j] = p then [] else [l[j]]) := by
  rw [List.take_succ_eq_append_getElem h]
  unfold without
  rw [List.filter_append]
  congr 1
  by_cases e : l[j] = p <;> simp [e]
theorem without_none (l : List Nat) (p : Nat) (h : idxOf l (fun q => q == p) = -1) : without l p = l := by
  unfold idxOf at h
  cases hf : l.findIdx? (fun q => q == p) with
  | some i => rw [hf] at h; simp only at h; omega
  | none =>
    rw [List.findIdx?_eq_none_iff] at hf
    unfold without
    rw [List.filter_eq_self]
    intro x hx
    rw [hf x hx]; rfl
theorem idx_some (l : List Nat) (p : Nat) (h : idxOf l (fun q => q == p) ≠ -1) : ∃ i, i < l.length ∧ idxOf l (fun q => q == p) = i ∧ without (l.take (i + 1)) p = l.take i := by
  unfold idxOf at h ⊢
  cases hf : l.findIdx? (fun q => q == p) with
  | none => rw [hf] at h; exact absurd rfl h
  | some i =>
    obtain ⟨hi, h1, h2⟩ := List.findIdx?_eq_some_iff_getElem.1 hf
    refine ⟨i, hi, rfl, ?_⟩
    have h1 : l[i] = p := by simpa using h1
    rw [without_snoc l p i hi, if_pos h1, List.append_nil]
    unfold without
    rw [List.filter_eq_self]
    intro x hx
    obtain ⟨j, hj, rfl⟩ := List.getElem_of_mem hx
    have hji : j < i := by simp at hj; omega
    have := h2 j hji
    rw [List.getElem_take]
    simpa using this
def RetDel (w : World) (A : Option Addr) (c : Nat) (L : List Nat) (e : Ending) (w' : World) : Prop :=
  e = .returned (.slice A L.length c) ∧ Row w' 3 1 A c L.length (nums L) ∧ w.grownBy w' (A.map (·.block))
/-- while the row is rewritten -/
def DelRel (w0 : World) (B g c p : Nat) (l : List Nat) (s5 s6 : Value) (w : World) : Prop :=
  ∃ (i j : Nat) (M : List Nat), s5 = .int .i64 (i : Int) ∧ s6 = .int .i64 (j : Int) ∧ i < j ∧ j ≤ l.length ∧ M.length = l.length ∧ M.take i = without (l.take j) p ∧ M.drop j = l.drop j ∧ Row w 3 1 (some ⟨g, 0, none⟩) c l.length (nums M) ∧ w0.grownBy w (some g) ∧ w.cell? ⟨B, 0, none⟩ = some (.int .i64 (p : Int))
theorem nums_set (M : List Nat) (i x : Nat) : (nums M).set i (.int .i64 (x : Int)) = nums (M.set i x) := by simp [nums, List.map_set]
theorem nums_take (M : List Nat) (i : Nat) : (nums M).take i = nums (M.take i) := by simp [nums, List.map_take]
theorem nums_len (M : List Nat) : (nums M).length = M.length := by simp [nums]
theorem zeroInt (w : World) : (zeroValue 3).run Try.prog w = .ok (.int .i64 0) w := by kernel_rfl
theorem index_wo_n (w : World) (B p : Nat) (A : Option Addr) (c : Nat) (l : List Nat) (n : Nat) (hn : n = l.length) (h : w.cell? ⟨B, 0, none⟩ = some (.int .i64 (p : Int))) (hr : Row w 3 1 A c l.length (nums l)) (h8 : n ≤ 1000) :
    Calls Try.prog 26 #[.slice A n c, .func (.func 57) #[] #[.pointer (some ⟨B, 0, none⟩)]] w (RetIw w (idxOf l (fun q => q == p))) := by
  subst hn
  exact index_wo w B p A c l h hr h8
set_option maxRecDepth 100000 in
set_option maxHeartbeats 1000000 in
theorem delete_wo (w : World) (B p : Nat) (A : Option Addr) (c : Nat) (l : List Nat) (h : w.cell? ⟨B, 0, none⟩ = some (.int .i64 (p : Int))) (hr : Row w 3 1 A c l.length (nums l)) (hne : A.map (·.block) ≠ some B) (h8 : l.length ≤ 1000) :
    Calls Try.prog 56 #[.slice A l.length c, .func (.func 57) #[] #[.pointer (some ⟨B, 0, none⟩)]] w (RetDel w A c (without l p)) := by
  have HR := Lib.hid hr
  have HB := Lib.hid h
  by_cases hidx : idxOf l (fun q => q == p) = -1
  · have HI := Lib.hid hidx
    have HWN := Lib.hid (without_none l p hidx)
    clear hr h hidx
    go_enter Try.func56, Try.ntmps56
    go_wp2_with fail
    refine (index_wo w B p A c l HB.out HR.out h8).mono ?_
    rintro e w1 ⟨rfl, rfl⟩
    rw [HI.out]
    go_wp2
    go_ret
    unfold RetDel
    rw [HWN.out]
    exact ⟨rfl, HR.out, World.grownBy.refl w _⟩
  · obtain ⟨i0, hi0, hidx2, hw0⟩ := idx_some l p hidx
    have hpos : 0 < (nums l).length := by rw [nums_len]; omega
    obtain ⟨g, hA, hg, hc0, hf⟩ := hr.at hpos
    have hcap := hr.cap
    subst hA
    have hgB : g ≠ B := fun e => hne (by rw [e]; rfl)
    have HI := Lib.hid hidx2
    have HW0 := Lib.hid hw0
    obtain ⟨n, hn⟩ : ∃ n, n = l.length := ⟨_, rfl⟩
    have HN := Lib.hid hn
    have HF := Lib.hid hf
    have hi0n : i0 < n := by rw [hn]; exact hi0
    rw [← hn] at h8 hcap ⊢
    clear hc0 hr h hidx hidx2 hw0 hpos hn hf hi0 hne
    go_enter Try.func56, Try.ntmps56
    go_wp2_with fail
    refine (index_wo_n w B p (some ⟨g, 0, none⟩) c l n HN.out HB.out HR.out h8).mono ?_
    rintro e w1 ⟨rfl, rfl⟩
    rw [HI.out]
    have hi1 : ((i0 : Int) == -1) = false := by simp
    have H0 : Hid (DelRel w B g c p l (.int .i64 (i0 : Int)) (.int .i64 ((i0 + 1 : Nat) : Int)) w) := Lib.hid ⟨i0, i0 + 1, l, rfl, rfl, by omega, by rw [← HN.out]; omega, rfl, HW0.out.symm, rfl, HR.out, World.grownBy.refl w _, HB.out⟩
    go_wp2
    clear hi1
    go_loopw [5, 6] (fun s5 s6 wr => DelRel w B g c p l s5 s6 wr) (fun _ s6 _ => n - (intOf s6).toNat)
    case atStart => exact H0.out
    case round =>
      obtain ⟨i, j, M, rfl, rfl, hij, hjn, hM, hMt, hMd, hrow, hgr, hcB⟩ := hrel
      have hjn : j ≤ n := by rw [HN.out]; exact hjn
      have HROW := Lib.hid hrow
      have HGR := Lib.hid hgr
      have HCB := Lib.hid hcB
      have HM := Lib.hid hM
      have HMT := Lib.hid hMt
      have HMD := Lib.hid hMd
      by_cases hlt : j < n
      · have hjl : j < l.length := by rw [← HN.out]; exact hlt
        have hjM : j < M.length := by rw [hM]; exact hjl
        have hMj : M[j] = l[j] := by
          have e1 : (M.drop j)[0]? = (l.drop j)[0]? := by rw [hMd]
          simp at e1
          rw [List.getElem?_eq_getElem hjM, List.getElem?_eq_getElem hjl] at e1
          exact Option.some.inj e1
        obtain ⟨g1, hA1, _, hc1, _⟩ := hrow.at (j := j) (by rw [nums_len]; exact hjM)
        injection hA1 with hA1
        injection hA1 with hA1
        subst hA1
        have hc1' : wr.cell? ⟨g, j, none⟩ = some (.int .i64 (l[j] : Int)) := by rw [hc1]; simp [nums, hMj]
        obtain ⟨g2, hA2, _, hc2, hf2⟩ := hrow.at (j := i) (by rw [nums_len, hM, ← HN.out]; omega)
        injection hA2 with hA2
        injection hA2 with hA2
        subst hA2
        have hfi := hf2 i
        have hiM0 : i < M.length := by rw [hM, ← HN.out]; omega
        obtain ⟨y, hy⟩ : ∃ y : Int, wr.cell? ⟨g, i, none⟩ = some (.int .i64 y) := ⟨(M[i] : Int), by rw [hc2]; simp [nums]⟩
        clear hc2 hiM0
        have hsn := without_snoc l p j hjl
        obtain ⟨x, hx⟩ : ∃ x, x = l[j] := ⟨_, rfl⟩
        rw [← hx] at hc1' hsn hMj
        have HSN := Lib.hid hsn
        have HMJ := Lib.hid hMj
        clear hrow hgr hcB hM hMt hMd hc1 hx hsn hf2 hMj H0 HR HI HW0 HF
        go_wp2_with fail
        refine (wo_pred wr B p x HCB.out).mono ?_
        rintro e w1 ⟨rfl, rfl⟩
        by_cases he : x = p
        · have hb : ((x : Int) == (p : Int)) = true := by rw [he]; simp
          have HT : Hid (M.take i = without (l.take (j + 1)) p) := Lib.hid (by rw [HSN.out, if_pos he, List.append_nil]; exact HMT.out)
          have HDJ : Hid (M.drop (j + 1) = l.drop (j + 1)) := Lib.hid (by rw [← List.drop_drop, HMD.out, List.drop_drop])
          rw [hb]
          clear hb he HSN HMJ
          go_wp2
          go_roundw
          case rel => exact ⟨i, j + 1, M, rfl, by go_num, by omega, by rw [← HN.out]; omega, HM.out, HT.out, HDJ.out, HROW.out, HGR.out, HCB.out⟩
          case measure => simp [intOf]; omega
        · have hb : ((x : Int) == (p : Int)) = false := by simp; omega
          have hiM : i < M.length := by rw [HM.out, ← HN.out]; omega
          have HT : Hid ((M.set i x).take (i + 1) = without (l.take (j + 1)) p) := Lib.hid (by
            rw [HSN.out, if_neg he, ← HMT.out, List.take_succ_eq_append_getElem (by simpa using hiM), List.getElem_set_self, List.take_set_of_le (Nat.le_refl _)])
          have HDJ : Hid ((M.set i x).drop (j + 1) = l.drop (j + 1)) := Lib.hid (by rw [List.drop_set_of_lt (by omega), ← List.drop_drop, HMD.out, List.drop_drop])
          have HRS : Hid (Row (wr.setCell ⟨g, i, none⟩ (.int .i64 (x : Int))) 3 1 (some ⟨g, 0, none⟩) c l.length (nums (M.set i x))) := Lib.hid (by
            have := HROW.out.set i (.int .i64 (x : Int))
            rw [nums_set] at this
            exact this)
          have HGS : Hid (w.grownBy (wr.setCell ⟨g, i, none⟩ (.int .i64 (x : Int))) (some g)) := Lib.hid (HGR.out.trans (grown_setCell wr ⟨g, i, none⟩ _))
          have HBS : Hid ((wr.setCell ⟨g, i, none⟩ (.int .i64 (x : Int))).cell? ⟨B, 0, none⟩ = some (.int .i64 (p : Int))) := Lib.hid ((grown_setCell wr ⟨g, i, none⟩ (.int .i64 (x : Int))).cell HCB.out (fun e => hgB (by injection e with e; exact e.symm)))
          rw [hb]
          clear hb he HSN HMJ
          go_wp2
          go_roundw
          case rel => exact ⟨i + 1, j + 1, M.set i x, by go_num, by go_num, by omega, by rw [← HN.out]; omega, by rw [List.length_set]; exact HM.out, HT.out, HDJ.out, HRS.out, HGS.out, HBS.out⟩
          case measure => simp [intOf]; omega
      · have hjn2 : j = n := by omega
        subst hjn2
        have hMw : M.take i = without l p := by rw [hMt, List.take_of_length_le (by rw [← HN.out]; omega)]
        have hwl : (without l p).length = i := by rw [← hMw, List.length_take, hM, ← HN.out]; omega
        have HSH : Hid (Row wr 3 1 (some ⟨g, 0, none⟩) c i (nums (without l p))) := Lib.hid (by
          have := hrow.short i (by rw [← HN.out]; omega)
          rw [Nat.mul_one, nums_take, hMw] at this
          exact this)
        have hcl : ∀ ty, (Builtin.clear_ #[28] ty #[.slice (some ⟨g, i, none⟩) (j - i) (c - i)]).run Try.prog wr = .ok (.tuple #[]) (wr.setCells g i (List.replicate (j - i) (.int .i64 0))) := fun ty =>
          Lib.run_clear_slice wr 28 3 ty (.int .i64 0) Try.underlying28 zeroInt rfl rfl g i (j - i) (c - i) (by omega) (fun t ht => by
            obtain ⟨g1, hA1, _, hc1, _⟩ := hrow.at (j := i + t) (by rw [nums_len, hM, ← HN.out]; omega)
            injection hA1 with hA1
            injection hA1 with hA1
            rw [hA1, hc1]; rfl) (fun t ht => by
            obtain ⟨g1, hA1, _, _, hf1⟩ := hrow.at (j := i + t) (by rw [nums_len, hM, ← HN.out]; omega)
            injection hA1 with hA1
            injection hA1 with hA1
            rw [hA1]; exact hf1 _)
        have HWL := Lib.hid hwl
        clear hrow hgr hcB hM hMt hMd hMw hwl H0 HR HI HW0 HF HROW HM HMT HMD hlt
        have hic : i < c := by omega
        go_wp2
        go_ret
        unfold RetDel
        rw [HWL.out]
        exact ⟨rfl, HSH.out.setOut _ i (Nat.le_refl _), HGR.out.trans (by simpa using grown_setCells g (List.replicate (j - i) (.int .i64 0)) i wr)⟩
theorem without_calls (w : World) (p : Nat) (A : Option Addr) (c : Nat) (l : List Nat) (hr : Row w 3 1 A c l.length (nums l)) (h8 : l.length ≤ 1000) :
    Calls Try.prog 47 #[.slice A l.length c, .int .i64 (p : Int)] w (RetDel w A c (without l p)) := by
  have hmf : ∀ (fn : Fn) (first cap : Array Value) (w : World), (Instr.makeFunc fn first cap).run Try.prog w = .ok (.func fn first cap) w := fun _ _ _ _ => rfl
  have hb1 : Below w.heap.size w (w.alloc (.cells #[.int .i64 (p : Int)] 3)) := (Below.refl _ _).alloc (Nat.le_refl _) _
  have HR1 := Lib.hid (hr.below hb1)
  have HB1 : Hid ((w.alloc (.cells #[.int .i64 (p : Int)] 3)).cell? ⟨w.heap.size, 0, none⟩ = some (.int .i64 (p : Int))) := Lib.hid (by rw [World.cell?_alloc_at _ _ _ _ rfl]; rfl)
  have HNE : Hid (A.map (·.block) ≠ some w.heap.size) := Lib.hid fun e => by have := hr.lt _ e; omega
  have HBW := Lib.hid hb1
  clear hr hb1
  go_enter Try.func47, Try.ntmps47
  go_wp2_with fail
  refine (delete_wo _ w.heap.size p A c l HB1.out HR1.out HNE.out h8).mono ?_
  rintro e w2 ⟨rfl, hrow, hg⟩
  have HROW := Lib.hid hrow
  have HG := Lib.hid hg
  clear hrow hg
  go_wp2
  go_ret
  exact ⟨rfl, HROW.out, ⟨HG.out.os, HG.out.tape, HG.out.output, Nat.le_trans HBW.out.size HG.out.size, fun k hk hne => (HG.out.block k (Nat.lt_of_lt_of_le hk HBW.out.size) hne).trans (HBW.out.block k hk)⟩⟩
end Go.Proofs.Ytgeffkdobnipgaa
