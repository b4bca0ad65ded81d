/- Slices of plain elements that came in: ints, bools, resources, acts, shapes. -/
import Derived.Test.YtgeffkdobnipgaaSm
import Derived.Test.YtgeffkdobnipgaaProcAwake
import Derived.Test.YtgeffkdobnipgaaPost
import Derived.Deep.Slices
import Derived.Deep.Fields
import Derived.Deep.MidRow
namespace Nac
open Go Go.RowKit
/-- the slice at A reads as xs, of which each has k cells -/
def RG {X : Type} (w : World) (B : Nat) (A : Option Addr) (k : Nat) (cells : X → List Value) (xs : List X) : Prop :=
  xs ≠ [] → ∃ b o, A = some ⟨b, o, none⟩ ∧ b < B ∧ ∀ j (h : j < xs.length) f v, (cells xs[j])[f]? = some v → w.cell? ⟨b, o + j * k + f, none⟩ = some v
theorem RG.get {X : Type} {w : World} {B : Nat} {A : Option Addr} {k : Nat} {cells : X → List Value} {xs : List X} (h : RG w B A k cells xs) {j : Nat} (hj : j < xs.length) :
    ∃ b o, A = some ⟨b, o, none⟩ ∧ b < B ∧ ∀ f v, (cells xs[j])[f]? = some v → w.cell? ⟨b, o + j * k + f, none⟩ = some v := by
  obtain ⟨b, o, hA, hb, hc⟩ := h (by intro e; subst e; simp at hj)
  exact ⟨b, o, hA, hb, hc j hj⟩
theorem RG.below {X : Type} {w w' : World} {B : Nat} {A : Option Addr} {k : Nat} {cells : X → List Value} {xs : List X} (h : RG w B A k cells xs) (hb : Below B w w') : RG w' B A k cells xs := fun hn => by
  obtain ⟨b, o, hA, hlt, hc⟩ := h hn
  exact ⟨b, o, hA, hlt, fun j hj f v hv => (hb.cell hlt).trans (hc j hj f v hv)⟩
theorem RG.take {X : Type} {w : World} {B : Nat} {A : Option Addr} {k : Nat} {cells : X → List Value} {xs : List X} (h : RG w B A k cells xs) (n : Nat) : RG w B A k cells (xs.take n) := fun hn => by
  obtain ⟨b, o, hA, hlt, hc⟩ := h (fun e => hn (by rw [e]; simp))
  refine ⟨b, o, hA, hlt, fun j hj f v hv => ?_⟩
  have hj2 : j < xs.length := by simp at hj; omega
  rw [List.getElem_take] at hv
  exact hc j hj2 f v hv
/-- an int -/
structure I64 (z : Int) : Prop where
  lo : -9223372036854775808 ≤ z
  hi : z ≤ 9223372036854775807
theorem I64.of {z : Int} (h : (Lit.int .i64 z).wf) : I64 z := by
  have : -9223372036854775808 ≤ z ∧ z ≤ 9223372036854775807 := by simpa [Lit.wf, IntKind.min, IntKind.max, IntKind.signed, IntKind.bits] using h
  exact ⟨this.1, this.2⟩
end Nac
namespace Go.Proofs.Ytgeffkdobnipgaa
open Go.RowKit Go.WideShapes Go.ChangeShapes Go.Deep Nac
section
variable {H : Type} {enc : TypeId × Value → H}
theorem spot_none {W : World} {a : Addr} {v : Value} (h : W.cell? a = some v) : a.spot = none := by
  cases hs : a.spot with
  | none => rfl
  | some x =>
    unfold World.cell? at h
    split at h
    · simp [hs] at h
    · cases h
theorem add_zero' (a : Addr) : a.add 0 = a := by simp [Addr.add]
theorem trod_rows {S E : TypeId} {k bs : Nat} (hu : Try.prog.underlying S = some (.slice E)) (hk : Try.prog.cellsOf E = k) (hkp : 0 < k) (hbs : Try.prog.bytesOf E = bs) (hbp : 0 < bs) {X : Type} [Inhabited X] (cells : X → List Value) (fits : X → Prop) (hcl : ∀ x, (cells x).length = k)
    {W : World} (helem : ∀ {fuel : Nat} {cs : List Value} {y : DataW H × List MemPlace}, DataW.trod enc Try.prog W 0 (fun _ => true) true fuel E cs = some y → ∃ x, cs = cells x ∧ fits x)
    {fuel : Nat} {v : Value} {y : DataW H × List MemPlace} (h : DataW.trod enc Try.prog W 0 (fun _ => true) true fuel S [v] = some y) (hs : Sm Try.prog S y.1) :
    ∃ (A : Option Addr) (c : Nat) (xs : List X), v = .slice A xs.length c ∧ xs.length ≤ c ∧ RG W W.heap.size A k cells xs ∧ xs.length ≤ 140737488351232 ∧ ∀ x ∈ xs, fits x := by
  rcases open_slice hu h with ⟨hcs, hx⟩ | ⟨a, len, cap, m, n, D, Pl, hcs, _, hl, hm, hmm, hx, hi⟩
  · simp at hcs
    subst hcs
    exact ⟨none, 0, [], rfl, Nat.le_refl _, fun h => absurd rfl h, by simp, by simp⟩
  · simp at hcs
    subst hcs
    simp only [if_true] at hmm
    subst hmm
    subst hx
    have hsl := hs.len hu
    rw [hbs] at hsl
    simp only [List.length_map, List.length_range, reachBytes] at hsl
    have hlb : len ≤ len * bs := Nat.le_mul_of_pos_right _ hbp
    have hlb2 : len * bs ≤ (len + (m - len)) * bs := Nat.mul_le_mul_right _ (by omega)
    have hex : ∀ i, i < len → ∃ x : X, (∀ f v, (cells x)[f]? = some v → W.cell? ((a.add (i * k)).add f) = some v) ∧ fits x := by
      intro i hil
      obtain ⟨cs', h1, h2⟩ := hi i (by omega)
      rw [hk] at h1
      obtain ⟨_, hcl', hat⟩ := World.cells?_some h1
      obtain ⟨x, rfl, hfit⟩ := helem h2
      refine ⟨x, fun f v hv => ?_, hfit⟩
      have hf : f < k := by rw [← hcl x]; exact (List.getElem?_eq_some_iff.1 hv).1
      have h3 := hat f hf
      exact h3.trans hv
    obtain ⟨Y, hY⟩ := choose_lt hex
    have hlen : ((List.range len).map Y).length = len := by simp
    refine ⟨some a, m, (List.range len).map Y, by rw [hlen], by omega, fun hne => ?_, by omega, fun x hx => ?_⟩
    · have hpos : 0 < len := by
        rcases Nat.eq_zero_or_pos len with h | h
        · subst h; simp at hne
        · exact h
      have h0 := (hY 0 hpos).1 0 _ (List.getElem?_eq_getElem (by rw [hcl]; exact hkp))
      rw [Nat.zero_mul, add_zero', add_zero'] at h0
      have hblk : a.block < W.heap.size := block_lt_of_cell h0
      have hspot := spot_none h0
      obtain ⟨b, o, s⟩ := a
      simp only at hspot
      subst hspot
      refine ⟨b, o, rfl, hblk, fun j hj f v hv => ?_⟩
      have hj' : j < len := by omega
      have e : ((List.range len).map Y)[j] = Y j := by simp
      rw [e] at hv
      have h1 := (hY j hj').1 f v hv
      rw [Addr.add_mid, Addr.add_mid] at h1
      exact h1
    · obtain ⟨i, hi, rfl⟩ := List.mem_map.1 hx
      exact (hY i (by simpa using hi)).2
theorem elem_int {W : World} {fuel : Nat} {cs : List Value} {y : DataW H × List MemPlace} (h : DataW.trod enc Try.prog W 0 (fun _ => true) true fuel 3 cs = some y) : ∃ z : Int, cs = [.int .i64 z] ∧ I64 z := by
  obtain ⟨z, e, _, hw⟩ := DataW.trod_int Try.underlying3 h
  exact ⟨z, e, I64.of hw⟩
theorem elem_i64 {W : World} {fuel : Nat} {cs : List Value} {y : DataW H × List MemPlace} (h : DataW.trod enc Try.prog W 0 (fun _ => true) true fuel 2 cs = some y) : ∃ z : Int, cs = [.int .i64 z] ∧ I64 z := by
  obtain ⟨z, e, _, hw⟩ := DataW.trod_int Try.underlying2 h
  exact ⟨z, e, I64.of hw⟩
theorem elem_bool {W : World} {fuel : Nat} {cs : List Value} {y : DataW H × List MemPlace} (h : DataW.trod enc Try.prog W 0 (fun _ => true) true fuel 4 cs = some y) : ∃ z : Bool, cs = [.bool z] ∧ True := by
  obtain ⟨z, e, _⟩ := DataW.trod_bool Try.underlying4 h
  exact ⟨z, e, trivial⟩
def c1B (b : Bool) : List Value := [.bool b]
def c1I (z : Int) : List Value := [.int .i64 z]
/-- a []bool that came in -/
theorem open_bools {W : World} {base : Nat} {v : Value} {d : DataW H} {p : List MemPlace} (hv : Value.okWide Try.prog W .any base 23 v) (h : DataW.Trod enc Try.prog W 0 (fun _ => true) true 23 v d p) (hs : Sm Try.prog 23 d) :
    ∃ A c xs, v = .slice A xs.length c ∧ xs.length ≤ c ∧ RG W W.heap.size A 1 c1B xs ∧ xs.length ≤ 140737488351232 ∧ ∀ x ∈ xs, True := by
  obtain ⟨a0, len, cap, rfl⟩ := okWide_slice Try.underlying23 hv
  obtain ⟨fuel, hf⟩ := h
  have hf' : DataW.trod enc Try.prog W 0 (fun _ => true) true fuel 23 [.slice a0 len cap] = some (d, p) := hf
  exact trod_rows Try.underlying23 (by kernel_rfl) (by decide) (bs := 1) (by kernel_rfl) (by decide) c1B (fun _ => True) (fun _ => rfl) (fun h => elem_bool h) hf' hs
end
end Go.Proofs.Ytgeffkdobnipgaa
