/- slices.Clone; Queue. -/
import Derived.Test.YtgeffkdobnipgaaProcDel
import Derived.Test.YtgeffkdobnipgaaApp
import Derived.Lib.LazyBuf
namespace Go.Proofs.Ytgeffkdobnipgaa
open Go.RowKit Nac Nac.Procs
def ints (l : List Nat) : List Int := l.map fun (p : Nat) => (p : Int)
theorem ints_len (l : List Nat) : (ints l).length = l.length := by simp [ints]
theorem ints_nums (l : List Nat) : (ints l).map (Value.int .i64) = nums l := by simp [ints, nums]
theorem nums_one (l : List Nat) : ∀ u ∈ nums l, u.oneCell' = true := fun u hu => by
  obtain ⟨x, _, rfl⟩ := List.mem_map.1 hu
  rfl
theorem row_src {w : World} {E : TypeId} {c n : Nat} {A : Option Addr} {xs : List Value} (h : Row w E 1 A c n xs) : Src w A xs := fun hne => by
  have hp : 0 < xs.length := List.length_pos_iff.2 hne
  obtain ⟨g, hA, _, _, _⟩ := h.at hp
  refine ⟨⟨g, 0, none⟩, hA, fun j u hu => ?_⟩
  obtain ⟨hj, rfl⟩ := List.getElem?_eq_some_iff.1 hu
  obtain ⟨g', hA', _, hc, _⟩ := h.at hj
  rw [hA] at hA'
  injection hA' with e
  injection e with e
  subst e
  rw [Addr.add_mid, Nat.zero_add]
  exact hc
/-- what reads as a list of processes -/
def RetQ (w : World) (l : List Nat) (e : Ending) (w' : World) : Prop := ∃ A c, e = .returned (.slice A l.length c) ∧ RI w' w'.heap.size A (ints l) ∧ Below w.heap.size w w' ∧ ∀ g, A.map (·.block) = some g → w.heap.size ≤ g
theorem row_ri {w : World} {A : Option Addr} {c : Nat} {l : List Nat} (h : Row w 3 1 A c l.length (nums l)) : RI w w.heap.size A (ints l) := by
  have : OI w 0 A c (ints l) := by unfold OI; rw [ints_len, ints_nums]; exact h
  exact this.ri
set_option maxHeartbeats 1000000 in
theorem clone_calls (w : World) (A : Option Addr) (c : Nat) (l : List Nat) (n : Nat) (hn : n = l.length) (h : Row w 3 1 A c l.length (nums l)) (h8 : n ≤ 1000) :
    Calls Try.prog 29 #[.slice A n c] w (RetQ w l) := by
  subst hn
  cases A with
  | none =>
    have hl : l = [] := by
      cases l with
      | nil => rfl
      | cons a l =>
        obtain ⟨g, hA, _⟩ := h.at (j := 0) (by simp [nums])
        cases hA
    subst hl
    clear h8 h
    have hnil := fun (w : World) (a : Option Addr) (n c : Nat) => Lib.run_eql_slice_nil (P := Try.prog) w 28 3 a n c 0 0 Try.underlying28
    go_enter Try.func29, Try.ntmps29
    go_wp2
    go_ret
    exact ⟨none, 0, rfl, fun h => absurd rfl h, Below.refl _ _, fun g h => by cases h⟩
  | some a =>
    have HW : Hid (Row (w.alloc (.cells #[] 3)) 3 1 (some ⟨w.heap.size, 0, none⟩) 0 0 []) := Lib.hid ⟨rfl, .inr ⟨w.heap.size, 0, #[], rfl, Nat.zero_le _, heap_alloc_new w _, Nat.le_refl _, by decide, rfl, rfl⟩⟩
    have HR := Lib.hid (row_src (h.below ((Below.refl _ _).alloc (Nat.le_refl _) (.cells #[] 3))))
    have HL : Hid ((nums l).length = l.length * 1) := Lib.hid (by simp [nums])
    obtain ⟨n, hn⟩ : ∃ n, n = l.length := ⟨_, rfl⟩
    have HN := Lib.hid hn
    rw [← hn] at h8 ⊢
    clear h hn
    have hnil := fun (w : World) (a : Option Addr) (n c : Nat) => Lib.run_eql_slice_nil (P := Try.prog) w 28 3 a n c 0 0 Try.underlying28
    go_enter Try.func29, Try.ntmps29
    go_wp2_with (at_builtin; refine wpList_app _ rfl _ _ 28 rfl 0 3 (.int .i64 0) 1 8 Try.underlying28 Try.infoIt rfl (by decide) (some ⟨w.heap.size, 0, none⟩) 0 0 [] rfl HW.out (some a) n c (nums l) rfl (by rw [HN.out]; exact HL.out) HR.out (nums_one l) (by omega) (by unfold maxLen; omega) (Nat.zero_le _) ?_)
    intro A' c' w1 ho hg hnb
    have HNB : Hid (∀ g, A'.map (·.block) = some g → w.heap.size ≤ g) := Lib.hid fun g h => by
      rcases hnb with ⟨a, rfl, ha⟩ | ⟨a, rfl, ha⟩
      · rw [Option.map_some] at h; injection h with h; omega
      · rw [Option.map_some] at h; injection h with h; omega
    have HO : Hid (RI w1 w1.heap.size A' (ints l)) := Lib.hid (row_ri (c := c') (by
      rw [HN.out] at ho
      exact ho))
    have HG : Hid (Below w.heap.size w w1) := Lib.hid (((Below.refl w.heap.size w).alloc (Nat.le_refl _) _).trans (grown_below hg (by simp) (fun k e => by simp at e; omega)))
    clear ho hg hnb
    go_wp2
    go_ret
    exact ⟨A', c', by rw [← HN.out]; rfl, HO.out, HG.out, HNB.out⟩
def queueL (P : PSet) (r : Int) : List Nat := if isR P r = true then (P.rsc r.toNat).q else []
theorem Queue_calls (w : World) (S : Nat) (P : PSet) (A : Nat → Option Addr) (c : Nat → Nat) (h : SetM w S P A c) (hI : Inv P) (r : Int) : Calls Try.prog 13 #[.pointer (some ⟨S, 0, none⟩), .int .i64 r] w (RetQ w (queueL P r)) := by
  have H := Lib.hid h
  cases hip : isR P r with
  | false =>
    have HX : Hid (queueL P r = []) := Lib.hid (by unfold queueL; rw [hip]; rfl)
    have HP := Lib.hid hip
    clear h hip hI
    rw [HX.out]
    go_enter Try.func13, Try.ntmps13
    go_wp2_with fail
    refine (isResource_calls w S P A c H.out r).mono ?_
    rintro e w2 ⟨rfl, rfl⟩
    rw [HP.out]
    go_wp2
    go_ret
    exact ⟨none, 0, rfl, fun h => absurd rfl h, Below.refl _ _, fun g h => by cases h⟩
  | true =>
    have HP := Lib.hid hip
    obtain ⟨k, rfl, hk⟩ := isR_nat hip
    have HX : Hid (queueL P k = (P.rsc k).q) := Lib.hid (by unfold queueL; rw [hip]; rfl)
    have HK := Lib.hid hk
    obtain ⟨g, hA, _⟩ := h.rcell hk
    obtain ⟨n, hn⟩ : ∃ n, n = P.rs.length := ⟨_, rfl⟩
    have c0 := h.head1 hA hn
    obtain ⟨l, hl⟩ : ∃ l, l = (P.rsc k).q := ⟨_, rfl⟩
    obtain ⟨m, hm⟩ : ∃ m, m = l.length := ⟨_, rfl⟩
    have c1 : w.cell? ⟨g, k * 5 + 3, none⟩ = some (.slice (A (3 + 2 * k)) m (c (3 + 2 * k))) := by rw [hm, hl]; exact h.rget (f := 3) hk hA rfl
    have HR : Hid (Row w 3 1 (A (3 + 2 * k)) (c (3 + 2 * k)) l.length (nums l)) := Lib.hid (by rw [hl]; exact h.qo k hk)
    have hm8 : m ≤ 1000 := by have := hI.qlen k; rw [hm, hl]; omega
    have hn8 : n ≤ 1000 := by rw [hn]; exact hI.wf.m
    have HM := Lib.hid hm
    rw [← hn] at hk
    rw [HX.out, ← hl]
    clear h hip hI hn hA hl hm
    go_enter Try.func13, Try.ntmps13
    go_wp2_with fail
    refine (isResource_calls w S P A c H.out k).mono ?_
    rintro e w2 ⟨rfl, rfl⟩
    rw [HP.out]
    go_wp2_with fail
    refine (clone_calls w _ _ l m HM.out HR.out hm8).mono ?_
    rintro e w3 ⟨A', c', rfl, hri, hb, hfrs⟩
    have HFRS := Lib.hid hfrs
    have HRI := Lib.hid hri
    have HB := Lib.hid hb
    obtain ⟨m2, hm2⟩ : ∃ m, m = l.length := ⟨_, rfl⟩
    rw [← hm2]
    have HM2 := Lib.hid hm2
    clear hri hb hm2 hfrs
    go_wp2
    go_ret
    exact ⟨A', c', by rw [← HM2.out]; rfl, HRI.out, HB.out, HFRS.out⟩
end Go.Proofs.Ytgeffkdobnipgaa
