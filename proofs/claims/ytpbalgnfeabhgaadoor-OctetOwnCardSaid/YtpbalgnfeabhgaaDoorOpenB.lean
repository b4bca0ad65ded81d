/- Arguments opened: bytes, and numbers. -/
import Derived.Test.YtpbalgnfeabhgaaDoorBytes
import Derived.Test.YtpbalgnfeabhgaaDoorPost
import Derived.SizedLaws
namespace Go.Proofs.YtpbalgnfeabhgaaDoor
open Go.RowKit Go.WideShapes Go.ChangeShapes Nac
theorem Tryd.cellsByte : Tryd.prog.cellsOf 5 = 1 := by kernel_rfl
theorem Tryd.bytesByte : Tryd.prog.bytesOf 5 = 1 := by kernel_rfl
section
variable {H : Type} {enc : TypeId × Value → H}
/-- a []byte that came in -/
theorem open_bytes {W : World} {base : Nat} {v : Value} {d : DataW H} {p : List MemPlace} (hv : Value.okWide Tryd.prog W .any base 25 v) (h0 : DataW.Trod enc Tryd.prog W 0 (fun _ => true) true 25 v d p)
    (hsz : ∀ el sp, d = .slice el sp → (el.length + sp.length) * Tryd.prog.bytesOf 5 ≤ reachBytes) :
    ∃ A c l, v = .slice A l.length c ∧ l.length ≤ c ∧ RB W W.heap.size A l ∧ l.length ≤ 140737488351232 ∧ c ≤ 140737488351232 := by
  obtain ⟨a0, len, cap, rfl⟩ := okWide_slice Tryd.underlying25 hv
  obtain ⟨fuel, hf⟩ := h0
  rcases open_ints Tryd.underlying25 Tryd.underlying5 Tryd.cellsByte hf with ⟨hcs, hx⟩ | ⟨a, len', cap', zs, hcs, _, hl, hm, hz, hx, hcell, hwz⟩
  · simp [Value.cells] at hcs
    obtain ⟨rfl, rfl, rfl⟩ := hcs
    exact ⟨none, 0, [], rfl, Nat.le_refl _, RB.nil _ _ _, by simp, by omega⟩
  · simp [Value.cells] at hcs
    obtain ⟨rfl, rfl, rfl⟩ := hcs
    simp only [if_true] at hz
    obtain ⟨hd, _⟩ := Prod.mk.injEq .. ▸ hx
    have hs := hsz _ _ hd
    rw [Tryd.bytesByte] at hs
    simp only [lits, List.length_map, List.length_take, List.length_drop, reachBytes] at hs
    have hlen : ((zs.take len).map fun z => UInt8.ofNat z.toNat).length = len := by simp; omega
    refine ⟨some a, cap, (zs.take len).map fun z => UInt8.ofNat z.toNat, by rw [hlen], by omega, fun hne => ?_, by omega, by omega⟩
    have hpos : 0 < len := by
      rcases Nat.eq_zero_or_pos len with h | h
      · subst h; simp at hne
      · exact h
    have h0 := hcell 0 (by omega)
    have hblk : a.block < W.heap.size := by
      have : (a.add 0) = a := by simp [Addr.add]
      rw [this] at h0
      exact block_lt_of_cell h0
    have hspot : a.spot = none := by
      have : (a.add 0) = a := by simp [Addr.add]
      rw [this] at h0
      unfold World.cell? at h0
      split at h0
      · split at h0
        · cases h0
        · rename_i h; simpa using h
      · cases h0
    obtain ⟨b, o, s⟩ := a
    simp only at hspot
    subst hspot
    refine ⟨b, o, rfl, hblk, fun j hj => ?_⟩
    have hj' : j < len := by omega
    have hc := hcell j (by omega)
    have e : (⟨b, o, none⟩ : Addr).add j = ⟨b, o + j, none⟩ := by unfold Addr.add; split <;> simp_all
    rw [e] at hc
    rw [hc]
    have hjz : j < zs.length := by omega
    have hw := hwz zs[j] (List.getElem_mem hjz)
    have hb : 0 ≤ zs[j] ∧ zs[j] ≤ 255 := by simpa [Lit.wf, IntKind.min, IntKind.max, IntKind.signed, IntKind.bits] using hw
    simp only [List.getElem_map, List.getElem_take, List.getD, List.getElem?_eq_getElem hjz, Option.getD_some, UInt8.toNat_ofNat']
    congr 2
    omega
end
end Go.Proofs.YtpbalgnfeabhgaaDoor
