/- slices.IndexFunc with the closures of procs. -/
import Derived.Test.YtgeffkdobnipgaaProcWake
namespace Go.Proofs.Ytgeffkdobnipgaa
open Go.RowKit Nac Nac.Procs
/-- without's closure: is it p? -/
theorem wo_pred (w : World) (B : Nat) (p x : Int) (h : w.cell? ⟨B, 0, none⟩ = some (.int .i64 p)) : Calls Try.prog 57 #[.int .i64 x, .pointer (some ⟨B, 0, none⟩)] w (RetBw w (x == p)) := by
  go_enter Try.func57, Try.ntmps57
  go_wp2
  go_ret
  exact ⟨rfl, rfl⟩
def idxOf (l : List Nat) (pr : Nat → Bool) : Int := match l.findIdx? pr with | none => -1 | some i => i
theorem index_wo (w : World) (B p : Nat) (A : Option Addr) (c : Nat) (l : List Nat) (h : w.cell? ⟨B, 0, none⟩ = some (.int .i64 (p : Int))) (hr : Row w 3 1 A c l.length (nums l)) (h8 : l.length ≤ 1000) :
    Calls Try.prog 26 #[.slice A l.length c, .func (.func 57) #[] #[.pointer (some ⟨B, 0, none⟩)]] w (RetIw w (idxOf l (fun q => q == p))) := by
  obtain ⟨n, hn⟩ : ∃ n, n = l.length := ⟨_, rfl⟩
  have HR := Lib.hid hr
  have HN := Lib.hid hn
  have HB := Lib.hid h
  rw [← hn] at h8 ⊢
  clear hr hn h
  go_enter Try.func26, Try.ntmps26
  go_wp2
  go_loop [5, 8] (fun _ i => ∃ k : Nat, k ≤ n ∧ i = .int .i64 k ∧ Hid (∀ j, j < k → l.getD j 0 ≠ p)) (fun _ i => n - (intOf i).toNat)
  case atStart => exact ⟨0, Nat.zero_le _, rfl, Lib.hid fun j hj => absurd hj (Nat.not_lt_zero j)⟩
  case round =>
    obtain ⟨k, hk, rfl, HK⟩ := hrel
    by_cases hlt : k < n
    · have hkl : k < (nums l).length := by simp [nums, ← HN.out, hlt]
      obtain ⟨g, hA, hg, hc, hf⟩ := HR.out.at hkl
      have hc' : w.cell? ⟨g, k, none⟩ = some (.int .i64 (l.getD k 0 : Nat)) := by
        rw [hc]; simp [nums, List.getD, (show k < l.length by rw [← HN.out]; exact hlt)]
      subst hA
      clear hc hf hg hkl
      obtain ⟨x, hx⟩ : ∃ x, x = l.getD k 0 := ⟨_, rfl⟩
      rw [← hx] at hc'
      have HX := Lib.hid hx
      clear hx
      go_wp2_with fail
      refine (wo_pred w B p x HB.out).mono ?_
      rintro e w1 ⟨rfl, rfl⟩
      by_cases he : x = p
      · have hb : ((x : Int) == (p : Int)) = true := by rw [he]; simp
        have HI : Hid (idxOf l (fun q => q == p) = k) := Lib.hid (by
          have hk' : k < l.length := by rw [← HN.out]; exact hlt
          have e2 : l.findIdx? (fun q => q == p) = some k := by
            rw [List.findIdx?_eq_some_iff_getElem]
            refine ⟨hk', ?_, fun j hj => ?_⟩
            · have : l.getD k 0 = l[k] := by simp [List.getD, hk']
              rw [← this, ← HX.out, he]; simp
            · have hjl : j < l.length := by omega
              have := HK.out j hj
              rw [show l.getD j 0 = l[j] by simp [List.getD, hjl]] at this
              simpa using this
          unfold idxOf
          rw [e2])
        rw [hb]
        clear hb he
        go_wp2
        go_ret
        exact ⟨by rw [HI.out]; rfl, rfl⟩
      · have hb : ((x : Int) == (p : Int)) = false := by simp; omega
        have HK' : Hid (∀ j, j < k + 1 → l.getD j 0 ≠ p) := Lib.hid fun j hj => by
          rcases Nat.lt_or_ge j k with h | h
          · exact HK.out j h
          · have : j = k := by omega
            subst this
            rw [← HX.out]; exact he
        rw [hb]
        clear hb he HK
        go_wp2
        go_round
        case rel => exact ⟨k + 1, by omega, by go_num, HK'⟩
        case measure => simp [intOf]; omega
    · have hkn : k = n := by omega
      have HI : Hid (idxOf l (fun q => q == p) = -1) := Lib.hid (by
        have e2 : l.findIdx? (fun q => q == p) = none := by
          rw [List.findIdx?_eq_none_iff]
          intro y hy
          obtain ⟨j, hj, rfl⟩ := List.getElem_of_mem hy
          have := HK.out j (by rw [hkn, HN.out]; exact hj)
          rw [show l.getD j 0 = l[j] by simp [List.getD, hj]] at this
          simpa using this
        unfold idxOf
        rw [e2])
      subst hkn
      clear HK
      go_wp2
      go_ret
      exact ⟨by rw [HI.out]; rfl, rfl⟩
end Go.Proofs.Ytgeffkdobnipgaa
