/- Ints that came in. -/
import Derived.Test.YtoeebfkdipkgkaaDoorOpenB
namespace Nac
open Go
/-- the slice at A reads as the ints l -/
def RN (w : World) (B : Nat) (A : Option Addr) (l : List Int) : Prop :=
  l ≠ [] → ∃ b o, A = some ⟨b, o, none⟩ ∧ b < B ∧ ∀ j (h : j < l.length), w.cell? ⟨b, o + j, none⟩ = some (.int .i64 l[j])
theorem RN.get {w : World} {B : Nat} {A : Option Addr} {l : List Int} (h : RN w B A l) {k : Nat} (hk : k < l.length) :
    ∃ b o, A = some ⟨b, o, none⟩ ∧ b < B ∧ w.cell? ⟨b, o + k, none⟩ = some (.int .i64 l[k]) := by
  obtain ⟨b, o, hA, hb, hc⟩ := h (by intro e; subst e; simp at hk)
  exact ⟨b, o, hA, hb, hc k hk⟩
end Nac
namespace Go.Proofs.YtoeebfkdipkgkaaDoor
open Go.RowKit Go.WideShapes Go.ChangeShapes Nac
theorem Tryd.cellsInt : Tryd.prog.cellsOf 3 = 1 := by kernel_rfl
theorem Tryd.bytesInt : Tryd.prog.bytesOf 3 = 8 := by kernel_rfl
section
variable {H : Type} {enc : TypeId × Value → H}
/-- a []int that came in -/
theorem open_nums {W : World} {base : Nat} {v : Value} {d : DataW H} {p : List MemPlace} (hv : Value.okWide Tryd.prog W .any base 35 v) (h0 : DataW.Trod enc Tryd.prog W 0 (fun _ => true) true 35 v d p)
    (hsz : ∀ el sp, d = .slice el sp → (el.length + sp.length) * Tryd.prog.bytesOf 3 ≤ reachBytes) :
    ∃ A c l, v = .slice A l.length c ∧ l.length ≤ c ∧ RN W W.heap.size A l ∧ l.length ≤ 140737488351232 ∧ ∀ z ∈ l, -9223372036854775808 ≤ z ∧ z ≤ 9223372036854775807 := by
  obtain ⟨a0, len, cap, rfl⟩ := okWide_slice Tryd.underlying35 hv
  obtain ⟨fuel, hf⟩ := h0
  rcases open_ints Tryd.underlying35 Tryd.underlying3 Tryd.cellsInt hf with ⟨hcs, hx⟩ | ⟨a, len', cap', zs, hcs, _, hl, hm, hz, hx, hcell, hwz⟩
  · simp [Value.cells] at hcs
    obtain ⟨rfl, rfl, rfl⟩ := hcs
    exact ⟨none, 0, [], rfl, Nat.le_refl _, fun h => absurd rfl h, by simp, by simp⟩
  · simp [Value.cells] at hcs
    obtain ⟨rfl, rfl, rfl⟩ := hcs
    simp only [if_true] at hz
    obtain ⟨hd, _⟩ := Prod.mk.injEq .. ▸ hx
    have hs := hsz _ _ hd
    rw [Tryd.bytesInt] at hs
    simp only [lits, List.length_map, List.length_take, List.length_drop, reachBytes] at hs
    have hlen : (zs.take len).length = len := by simp; omega
    refine ⟨some a, cap, zs.take len, by rw [hlen], by omega, fun hne => ?_, by omega, fun z hz' => ?_⟩
    · have hpos : 0 < len := by
        rcases Nat.eq_zero_or_pos len with h | h
        · subst h; simp at hne
        · exact h
      have h0 := hcell 0 (by omega)
      have e0 : (a.add 0) = a := by simp [Addr.add]
      rw [e0] at h0
      have hblk : a.block < W.heap.size := block_lt_of_cell h0
      have hspot : a.spot = none := by
        unfold World.cell? at h0
        split at h0
        · split at h0
          · cases h0
          · rename_i h; simpa using h
        · cases h0
      obtain ⟨b, o, s⟩ := a
      simp only at hspot
      subst hspot
      refine ⟨b, o, rfl, hblk, fun j hj => ?_⟩
      have hj' : j < len := by omega
      have hc := hcell j (by omega)
      have e : (⟨b, o, none⟩ : Addr).add j = ⟨b, o + j, none⟩ := by unfold Addr.add; split <;> simp_all
      rw [e] at hc
      rw [hc]
      have hjz : j < zs.length := by omega
      simp only [List.getElem_take, List.getD, List.getElem?_eq_getElem hjz, Option.getD_some]
    · have hw := hwz z (List.mem_of_mem_take hz')
      simpa [Lit.wf, IntKind.min, IntKind.max, IntKind.signed, IntKind.bits] using hw
end
end Go.Proofs.YtoeebfkdipkgkaaDoor
