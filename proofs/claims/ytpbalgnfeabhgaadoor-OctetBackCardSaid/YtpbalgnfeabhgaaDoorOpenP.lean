/- Puts that came in: each a number, a size, a text, and which. -/
import Derived.Test.YtpbalgnfeabhgaaDoorSm
import Derived.Test.YtpbalgnfeabhgaaDoorBytes
import Derived.Test.YtpbalgnfeabhgaaDoorPost
import Derived.Test.YtpbalgnfeabhgaaDoorConv
import Derived.Test.YtpbalgnfeabhgaaDoorBoxF
import Derived.Deep.Slices
import Derived.Deep.Fields
import Derived.Deep.MidRow
namespace Nac
open Go
structure PutP where
  n : Nat
  size : Int
  s : List UInt8
  text : Bool
instance : Inhabited PutP := ⟨⟨0, 0, [], false⟩⟩
structure PutP.fits (x : PutP) : Prop where
  n : x.n ≤ 18446744073709551615
  size : I64 x.size
end Nac
namespace Go.Proofs.YtpbalgnfeabhgaaDoor
open Go.RowKit Go.WideShapes Go.ChangeShapes Go.Deep Nac
/-- the slice at A reads as the puts -/
def RP (w : World) (B : Nat) (A : Option Addr) (xs : List PutP) : Prop :=
  xs ≠ [] → ∃ b o, A = some ⟨b, o, none⟩ ∧ b < B ∧ ∀ j (h : j < xs.length), w.cell? ⟨b, o + j * 4, none⟩ = some (.int .u64 xs[j].n) ∧ w.cell? ⟨b, o + j * 4 + 1, none⟩ = some (.int .i64 xs[j].size) ∧ w.cell? ⟨b, o + j * 4 + 2, none⟩ = some (.string (strB xs[j].s)) ∧ w.cell? ⟨b, o + j * 4 + 3, none⟩ = some (.bool xs[j].text) ∧ xs[j].fits
theorem RP.get {w : World} {B : Nat} {A : Option Addr} {xs : List PutP} (h : RP w B A xs) {j : Nat} (hj : j < xs.length) :
    ∃ b o, A = some ⟨b, o, none⟩ ∧ b < B ∧ w.cell? ⟨b, o + j * 4, none⟩ = some (.int .u64 xs[j].n) ∧ w.cell? ⟨b, o + j * 4 + 1, none⟩ = some (.int .i64 xs[j].size) ∧ w.cell? ⟨b, o + j * 4 + 2, none⟩ = some (.string (strB xs[j].s)) ∧ w.cell? ⟨b, o + j * 4 + 3, none⟩ = some (.bool xs[j].text) ∧ xs[j].fits := by
  obtain ⟨b, o, hA, hb, hc⟩ := h (by intro e; subst e; simp at hj)
  exact ⟨b, o, hA, hb, hc j hj⟩
theorem RP.below {w w' : World} {B : Nat} {A : Option Addr} {xs : List PutP} (h : RP w B A xs) (hb : RowKit.Below B w w') : RP w' B A xs := fun hn => by
  obtain ⟨b, o, hA, hlt, hc⟩ := h hn
  refine ⟨b, o, hA, hlt, fun j hj => ?_⟩
  obtain ⟨h1, h2, h3, h4, h5⟩ := hc j hj
  exact ⟨(hb.cell hlt).trans h1, (hb.cell hlt).trans h2, (hb.cell hlt).trans h3, (hb.cell hlt).trans h4, h5⟩
section
variable {H : Type} {enc : TypeId × Value → H}
theorem spot_noneP {W : World} {a : Addr} {v : Value} (h : W.cell? a = some v) : a.spot = none := by
  cases hs : a.spot with
  | none => rfl
  | some x =>
    unfold World.cell? at h
    split at h
    · simp [hs] at h
    · cases h
theorem add_zeroP (a : Addr) : a.add 0 = a := by simp [Addr.add]
set_option maxRecDepth 100000 in
/-- a put, by its reading -/
theorem trod_put {W : World} {fuel : Nat} {cs : List Value} {y : DataW H × List MemPlace} (h : DataW.trod enc Tryd.prog W 0 (fun _ => true) true fuel 46 cs = some y) :
    ∃ x : PutP, cs = [.int .u64 x.n, .int .i64 x.size, .string (strB x.s), .bool x.text] ∧ x.fits := by
  obtain ⟨ys, n, _, rfl, hlen, hyl, hf⟩ := DataW.trod_struct Tryd.underlying46 h
  have hc : Tryd.prog.cellsOf 46 = 4 := by kernel_rfl
  rw [hc] at hlen
  match cs, hlen with
  | [v0, v1, v2, v3], _ =>
    match ys, hyl with
    | [y0, y1, y2, y3], _ =>
      have g0 := hf 0 _ rfl
      have g1 := hf 1 _ rfl
      have g2 := hf 2 _ rfl
      have g3 := hf 3 _ rfl
      have k0 : DataW.trod enc Tryd.prog W 0 (fun _ => true) true n 22 [v0] = some y0 := g0
      have k1 : DataW.trod enc Tryd.prog W 0 (fun _ => true) true n 3 [v1] = some y1 := g1
      have k2 : DataW.trod enc Tryd.prog W 0 (fun _ => true) true n 9 [v2] = some y2 := g2
      have k3 : DataW.trod enc Tryd.prog W 0 (fun _ => true) true n 4 [v3] = some y3 := g3
      obtain ⟨z, e0, _, hw⟩ := DataW.trod_int Tryd.underlying22 k0
      have hz : 0 ≤ z ∧ z ≤ 18446744073709551615 := by simpa [Lit.wf, IntKind.min, IntKind.max, IntKind.signed, IntKind.bits] using hw
      obtain ⟨z1, e1, _, w1⟩ := DataW.trod_int Tryd.underlying3 k1
      obtain ⟨s, e2, _, _⟩ := DataW.trod_string Tryd.underlying9 k2
      obtain ⟨r, e3, _⟩ := DataW.trod_bool Tryd.underlying4 k3
      refine ⟨⟨z.toNat, z1, s.data.toList, r⟩, ?_, ⟨by show z.toNat ≤ _; omega, I64.of w1⟩⟩
      simp at e0 e1 e2 e3
      rw [e0, e1, e2, e3]
      simp [Int.toNat_of_nonneg hz.1, strB]
/-- puts, by their reading -/
theorem trod_puts {W : World} {fuel : Nat} {v : Value} {y : DataW H × List MemPlace} (h : DataW.trod enc Tryd.prog W 0 (fun _ => true) true fuel 44 [v] = some y) (hs : Sm Tryd.prog 44 y.1) :
    ∃ A c xs, v = .slice A xs.length c ∧ xs.length ≤ c ∧ RP W W.heap.size A xs ∧ xs.length ≤ 140737488351232 := by
  have hc4 : Tryd.prog.cellsOf 46 = 4 := by kernel_rfl
  have hb40 : Tryd.prog.bytesOf 46 = 40 := by kernel_rfl
  rcases open_slice Tryd.underlying44 h with ⟨hcs, hx⟩ | ⟨a, len, cap, m, n, D, Pl, hcs, _, hl, hm, hmm, hx, hi⟩
  · simp at hcs
    subst hcs
    exact ⟨none, 0, [], rfl, Nat.le_refl _, fun h => absurd rfl h, by simp⟩
  · simp at hcs
    subst hcs
    simp only [if_true] at hmm
    subst hmm
    subst hx
    have hsl := hs.len Tryd.underlying44
    rw [hb40] at hsl
    simp only [List.length_map, List.length_range, reachBytes] at hsl
    have hex : ∀ i, i < len → ∃ x : PutP, W.cell? (a.add (i * 4)) = some (.int .u64 x.n) ∧ W.cell? ((a.add (i * 4)).add 1) = some (.int .i64 x.size) ∧ W.cell? ((a.add (i * 4)).add 2) = some (.string (strB x.s)) ∧ W.cell? ((a.add (i * 4)).add 3) = some (.bool x.text) ∧ x.fits := by
      intro i hil
      obtain ⟨cs', h1, h2⟩ := hi i (by omega)
      rw [hc4] at h1
      obtain ⟨_, hcl, hat⟩ := World.cells?_some h1
      obtain ⟨x, rfl, hfit⟩ := trod_put h2
      refine ⟨x, ?_, hat 1 (by decide), hat 2 (by decide), hat 3 (by decide), hfit⟩
      have := hat 0 (by decide)
      rwa [add_zeroP] at this
    obtain ⟨X, hX⟩ := choose_lt hex
    have hlen : ((List.range len).map X).length = len := by simp
    refine ⟨some a, m, (List.range len).map X, by rw [hlen], by omega, fun hne => ?_, by omega⟩
    have hpos : 0 < len := by
      rcases Nat.eq_zero_or_pos len with h | h
      · subst h; simp at hne
      · exact h
    have h0 := (hX 0 hpos).1
    rw [Nat.zero_mul, add_zeroP] at h0
    have hblk : a.block < W.heap.size := block_lt_of_cell h0
    have hspot := spot_noneP h0
    obtain ⟨b, o, s⟩ := a
    simp only at hspot
    subst hspot
    refine ⟨b, o, rfl, hblk, fun j hj => ?_⟩
    have hj' : j < len := by omega
    obtain ⟨h1, h2, h3, h4, h5⟩ := hX j hj'
    rw [Addr.add_mid] at h1 h2 h3 h4
    rw [Addr.add_mid] at h2 h3 h4
    have e : ((List.range len).map X)[j] = X j := by simp
    rw [e]
    exact ⟨h1, h2, h3, h4, h5⟩
/-- an argument of puts -/
theorem open_puts {W : World} {base : Nat} {v : Value} {d : DataW H} {p : List MemPlace} (hv : Value.okWide Tryd.prog W .any base 44 v) (h : DataW.Trod enc Tryd.prog W 0 (fun _ => true) true 44 v d p) (hs : Sm Tryd.prog 44 d) :
    ∃ A c xs, v = .slice A xs.length c ∧ xs.length ≤ c ∧ RP W W.heap.size A xs ∧ xs.length ≤ 140737488351232 := by
  obtain ⟨a0, len, cap, rfl⟩ := okWide_slice Tryd.underlying44 hv
  obtain ⟨fuel, hf⟩ := h
  have hf' : DataW.trod enc Tryd.prog W 0 (fun _ => true) true fuel 44 [.slice a0 len cap] = some (d, p) := hf
  exact trod_puts hf' hs
end
end Go.Proofs.YtpbalgnfeabhgaaDoor
