/- Acts that came in: each a bool, bytes, a moment. -/
import Derived.Test.YtdjphdkoljfndaaSm
import Derived.Test.YtdjphdkoljfndaaBytes
import Derived.Test.YtdjphdkoljfndaaPost
import Derived.Deep.Slices
import Derived.Deep.Fields
import Derived.Deep.MidRow
namespace Nac
open Go
/-- an act as it lies: whether it receives; the bytes' address, capacity, and what they are; the moment -/
structure ActP where
  recv : Bool
  A : Option Addr
  c : Nat
  l : List UInt8
  now : Nat
structure ActP.fits (x : ActP) (w : World) (B : Nat) : Prop where
  rb : RB w B x.A x.l
  cap : x.l.length ≤ x.c
  len : x.l.length ≤ 140737488351232
  now : x.now ≤ 18446744073709551615
/-- the slice at A reads as the acts -/
def RA (w : World) (B : Nat) (A : Option Addr) (xs : List ActP) : Prop :=
  xs ≠ [] → ∃ b o, A = some ⟨b, o, none⟩ ∧ b < B ∧ ∀ j (h : j < xs.length), w.cell? ⟨b, o + j * 3, none⟩ = some (.bool xs[j].recv) ∧ w.cell? ⟨b, o + j * 3 + 1, none⟩ = some (.slice xs[j].A xs[j].l.length xs[j].c) ∧ w.cell? ⟨b, o + j * 3 + 2, none⟩ = some (.int .u64 xs[j].now) ∧ xs[j].fits w B
theorem RA.get {w : World} {B : Nat} {A : Option Addr} {xs : List ActP} (h : RA w B A xs) {j : Nat} (hj : j < xs.length) :
    ∃ b o, A = some ⟨b, o, none⟩ ∧ b < B ∧ w.cell? ⟨b, o + j * 3, none⟩ = some (.bool xs[j].recv) ∧ w.cell? ⟨b, o + j * 3 + 1, none⟩ = some (.slice xs[j].A xs[j].l.length xs[j].c) ∧ w.cell? ⟨b, o + j * 3 + 2, none⟩ = some (.int .u64 xs[j].now) ∧ xs[j].fits w B := by
  obtain ⟨b, o, hA, hb, hc⟩ := h (by intro e; subst e; simp at hj)
  exact ⟨b, o, hA, hb, hc j hj⟩
theorem RA.below {w w' : World} {B : Nat} {A : Option Addr} {xs : List ActP} (h : RA w B A xs) (hb : RowKit.Below B w w') : RA w' B A xs := fun hn => by
  obtain ⟨b, o, hA, hlt, hc⟩ := h hn
  refine ⟨b, o, hA, hlt, fun j hj => ?_⟩
  obtain ⟨h1, h2, h3, h4⟩ := hc j hj
  exact ⟨(hb.cell hlt).trans h1, (hb.cell hlt).trans h2, (hb.cell hlt).trans h3, h4.rb.below hb, h4.cap, h4.len, h4.now⟩
/-- an int -/
structure I64 (z : Int) : Prop where
  lo : -9223372036854775808 ≤ z
  hi : z ≤ 9223372036854775807
theorem I64.of {z : Int} (h : (Lit.int .i64 z).wf) : I64 z := by
  have : -9223372036854775808 ≤ z ∧ z ≤ 9223372036854775807 := by simpa [Lit.wf, IntKind.min, IntKind.max, IntKind.signed, IntKind.bits] using h
  exact ⟨this.1, this.2⟩
end Nac
namespace Go.Proofs.Ytdjphdkoljfndaa
open Go.RowKit Go.WideShapes Go.ChangeShapes Go.Deep Nac
theorem Try.cellsByte : Try.prog.cellsOf 5 = 1 := by kernel_rfl
theorem Try.bytesByte : Try.prog.bytesOf 5 = 1 := by kernel_rfl
section
variable {H : Type} {enc : TypeId × Value → H}
theorem spot_none {W : World} {a : Addr} {v : Value} (h : W.cell? a = some v) : a.spot = none := by
  cases hs : a.spot with
  | none => rfl
  | some x =>
    unfold World.cell? at h
    split at h
    · simp [hs] at h
    · cases h
theorem add_zero' (a : Addr) : a.add 0 = a := by simp [Addr.add]
/-- bytes, by their reading -/
theorem trod_bytes {W : World} {fuel : Nat} {v : Value} {y : DataW H × List MemPlace} (h : DataW.trod enc Try.prog W 0 (fun _ => true) true fuel 30 [v] = some y) (hs : Sm Try.prog 30 y.1) :
    ∃ A c l, v = .slice A l.length c ∧ l.length ≤ c ∧ RB W W.heap.size A l ∧ l.length ≤ 140737488351232 := by
  rcases open_ints Try.underlying30 Try.underlying5 Try.cellsByte h with ⟨hcs, hx⟩ | ⟨a, len, cap, zs, hcs, _, hl, hm, hz, hx, hcell, hwz⟩
  · simp at hcs
    subst hcs
    exact ⟨none, 0, [], rfl, Nat.le_refl _, RB.nil _ _ _, by simp⟩
  · simp at hcs
    subst hcs
    simp only [if_true] at hz
    subst hx
    have hs := hs.len Try.underlying30
    rw [Try.bytesByte] at hs
    simp only [lits, List.length_map, List.length_take, List.length_drop, reachBytes] at hs
    have hlen : ((zs.take len).map fun z => UInt8.ofNat z.toNat).length = len := by simp; omega
    refine ⟨some a, cap, (zs.take len).map fun z => UInt8.ofNat z.toNat, by rw [hlen], by omega, fun hne => ?_, by omega⟩
    have hpos : 0 < len := by
      rcases Nat.eq_zero_or_pos len with h | h
      · subst h; simp at hne
      · exact h
    have h0 := hcell 0 (by omega)
    rw [add_zero'] at h0
    have hblk : a.block < W.heap.size := block_lt_of_cell h0
    have hspot := spot_none h0
    obtain ⟨b, o, s⟩ := a
    simp only at hspot
    subst hspot
    refine ⟨b, o, rfl, hblk, fun j hj => ?_⟩
    have hc := hcell j (by omega)
    have e : (⟨b, o, none⟩ : Addr).add j = ⟨b, o + j, none⟩ := by unfold Addr.add; split <;> simp_all
    rw [e] at hc
    rw [hc]
    have hjz : j < zs.length := by omega
    have hw := hwz zs[j] (List.getElem_mem hjz)
    have hb : 0 ≤ zs[j] ∧ zs[j] ≤ 255 := by simpa [Lit.wf, IntKind.min, IntKind.max, IntKind.signed, IntKind.bits] using hw
    simp only [List.getElem_map, List.getElem_take, List.getD, List.getElem?_eq_getElem hjz, Option.getD_some, UInt8.toNat_ofNat']
    congr 2
    omega
/-- an act, by its reading -/
theorem trod_act {W : World} {fuel : Nat} {cs : List Value} {y : DataW H × List MemPlace} (h : DataW.trod enc Try.prog W 0 (fun _ => true) true fuel 33 cs = some y) (hs : Sm Try.prog 33 y.1) :
    ∃ x : ActP, cs = [.bool x.recv, .slice x.A x.l.length x.c, .int .u64 x.now] ∧ x.fits W W.heap.size := by
  obtain ⟨ys, n, _, rfl, hlen, hyl, hf⟩ := DataW.trod_struct Try.underlying33 h
  have hc : Try.prog.cellsOf 33 = 3 := by kernel_rfl
  rw [hc] at hlen
  match cs, hlen with
  | [v0, v1, v2], _ =>
    match ys, hyl with
    | [y0, y1, y2], _ =>
      have g0 := hf 0 _ rfl
      have g1 := hf 1 _ rfl
      have g2 := hf 2 _ rfl
      have k0 : DataW.trod enc Try.prog W 0 (fun _ => true) true n 4 [v0] = some y0 := g0
      have k1 : DataW.trod enc Try.prog W 0 (fun _ => true) true n 30 [v1] = some y1 := g1
      have k2 : DataW.trod enc Try.prog W 0 (fun _ => true) true n 31 [v2] = some y2 := g2
      obtain ⟨r, e0, _⟩ := DataW.trod_bool Try.underlying4 k0
      obtain ⟨A, c, l, rfl, h1, h2, h3⟩ := trod_bytes k1 (hs.part Try.underlying33 (j := 1) rfl rfl)
      obtain ⟨z, e2, _, hw⟩ := DataW.trod_int Try.underlying31 k2
      have hz : 0 ≤ z ∧ z ≤ 18446744073709551615 := by simpa [Lit.wf, IntKind.min, IntKind.max, IntKind.signed, IntKind.bits] using hw
      refine ⟨⟨r, A, c, l, z.toNat⟩, ?_, ⟨h2, h1, h3, by show z.toNat ≤ _; omega⟩⟩
      simp at e0 e2
      rw [e0, e2]
      simp [Int.toNat_of_nonneg hz.1]
instance : Inhabited ActP := ⟨⟨false, none, 0, [], 0⟩⟩
/-- acts, by their reading -/
theorem trod_acts {W : World} {fuel : Nat} {v : Value} {y : DataW H × List MemPlace} (h : DataW.trod enc Try.prog W 0 (fun _ => true) true fuel 22 [v] = some y) (hs : Sm Try.prog 22 y.1) :
    ∃ A c xs, v = .slice A xs.length c ∧ xs.length ≤ c ∧ RA W W.heap.size A xs ∧ xs.length ≤ 140737488351232 := by
  have hc3 : Try.prog.cellsOf 33 = 3 := by kernel_rfl
  have hb40 : Try.prog.bytesOf 33 = 40 := by kernel_rfl
  rcases open_slice Try.underlying22 h with ⟨hcs, hx⟩ | ⟨a, len, cap, m, n, D, Pl, hcs, _, hl, hm, hmm, hx, hi⟩
  · simp at hcs
    subst hcs
    exact ⟨none, 0, [], rfl, Nat.le_refl _, fun h => absurd rfl h, by simp⟩
  · simp at hcs
    subst hcs
    simp only [if_true] at hmm
    subst hmm
    subst hx
    have hsl := hs.len Try.underlying22
    rw [hb40] at hsl
    simp only [List.length_map, List.length_range, reachBytes] at hsl
    have hex : ∀ i, i < len → ∃ x : ActP, W.cell? (a.add (i * 3)) = some (.bool x.recv) ∧ W.cell? ((a.add (i * 3)).add 1) = some (.slice x.A x.l.length x.c) ∧ W.cell? ((a.add (i * 3)).add 2) = some (.int .u64 x.now) ∧ x.fits W W.heap.size := by
      intro i hil
      obtain ⟨cs', h1, h2⟩ := hi i (by omega)
      rw [hc3] at h1
      obtain ⟨_, hcl, hat⟩ := World.cells?_some h1
      obtain ⟨x, rfl, hfit⟩ := trod_act h2 (hs.elem Try.underlying22 (by simp only [List.mem_map, List.mem_range]; exact ⟨i, hil, rfl⟩))
      refine ⟨x, ?_, hat 1 (by decide), hat 2 (by decide), hfit⟩
      have := hat 0 (by decide)
      rwa [add_zero'] at this
    obtain ⟨X, hX⟩ := choose_lt hex
    have hlen : ((List.range len).map X).length = len := by simp
    refine ⟨some a, m, (List.range len).map X, by rw [hlen], by omega, fun hne => ?_, by omega⟩
    have hpos : 0 < len := by
      rcases Nat.eq_zero_or_pos len with h | h
      · subst h; simp at hne
      · exact h
    have h0 := (hX 0 hpos).1
    rw [Nat.zero_mul, add_zero'] at h0
    have hblk : a.block < W.heap.size := block_lt_of_cell h0
    have hspot := spot_none h0
    obtain ⟨b, o, s⟩ := a
    simp only at hspot
    subst hspot
    refine ⟨b, o, rfl, hblk, fun j hj => ?_⟩
    have hj' : j < len := by omega
    obtain ⟨h1, h2, h3, h4⟩ := hX j hj'
    rw [Addr.add_mid] at h1 h2 h3
    rw [Addr.add_mid] at h2 h3
    have e : ((List.range len).map X)[j] = X j := by simp
    rw [e]
    exact ⟨h1, h2, h3, h4⟩
/-- an argument of acts -/
theorem open_acts {W : World} {base : Nat} {v : Value} {d : DataW H} {p : List MemPlace} (hv : Value.okWide Try.prog W .any base 22 v) (h : DataW.Trod enc Try.prog W 0 (fun _ => true) true 22 v d p) (hs : Sm Try.prog 22 d) :
    ∃ A c xs, v = .slice A xs.length c ∧ xs.length ≤ c ∧ RA W W.heap.size A xs ∧ xs.length ≤ 140737488351232 := by
  obtain ⟨a0, len, cap, rfl⟩ := okWide_slice Try.underlying22 hv
  obtain ⟨fuel, hf⟩ := h
  have hf' : DataW.trod enc Try.prog W 0 (fun _ => true) true fuel 22 [.slice a0 len cap] = some (d, p) := hf
  exact trod_acts hf' hs
/-- a shape, by its reading -/
theorem trod_shape {W : World} {fuel : Nat} {cs : List Value} {y : DataW H × List MemPlace} (h : DataW.trod enc Try.prog W 0 (fun _ => true) true fuel 39 cs = some y) :
    ∃ k m s : Int, cs = [.int .i64 k, .int .i64 m, .int .i64 s] ∧ I64 k ∧ I64 m ∧ I64 s := by
  obtain ⟨ys, n, _, rfl, hlen, hyl, hf⟩ := DataW.trod_struct Try.underlying39 h
  have hc : Try.prog.cellsOf 39 = 3 := by kernel_rfl
  rw [hc] at hlen
  match cs, hlen with
  | [v0, v1, v2], _ =>
    match ys, hyl with
    | [y0, y1, y2], _ =>
      have g0 := hf 0 _ rfl
      have g1 := hf 1 _ rfl
      have g2 := hf 2 _ rfl
      have k0 : DataW.trod enc Try.prog W 0 (fun _ => true) true n 3 [v0] = some y0 := g0
      have k1 : DataW.trod enc Try.prog W 0 (fun _ => true) true n 3 [v1] = some y1 := g1
      have k2 : DataW.trod enc Try.prog W 0 (fun _ => true) true n 3 [v2] = some y2 := g2
      obtain ⟨z0, e0, _, w0⟩ := DataW.trod_int Try.underlying3 k0
      obtain ⟨z1, e1, _, w1⟩ := DataW.trod_int Try.underlying3 k1
      obtain ⟨z2, e2, _, w2⟩ := DataW.trod_int Try.underlying3 k2
      simp at e0 e1 e2
      exact ⟨z0, z1, z2, by rw [e0, e1, e2], I64.of w0, I64.of w1, I64.of w2⟩
theorem open_shape {W : World} {base : Nat} {v : Value} {d : DataW H} {p : List MemPlace} (hv : Value.okWide Try.prog W .any base 39 v) (h : DataW.Trod enc Try.prog W 0 (fun _ => true) true 39 v d p) :
    ∃ k m s : Int, v = .agg #[.int .i64 k, .int .i64 m, .int .i64 s] ∧ I64 k ∧ I64 m ∧ I64 s := by
  obtain ⟨cs, rfl, hsz⟩ := okWide_struct Try.underlying39 hv
  obtain ⟨fuel, hf⟩ := h
  obtain ⟨k, m, s, h1, h2⟩ := trod_shape hf
  have h1' : cs.toList = _ := h1
  exact ⟨k, m, s, by rw [← Array.toArray_toList (xs := cs), h1'], h2⟩
theorem open_diodes {W : World} {base : Nat} {v : Value} {d : DataW H} {p : List MemPlace} (hv : Value.okWide Try.prog W .any base 24 v) (h : DataW.Trod enc Try.prog W 0 (fun _ => true) true 24 v d p) (hs : Sm Try.prog 24 d) :
    ∃ (k m s : Int) (A : Option Addr) (c : Nat) (xs : List ActP), v = .agg #[.int .i64 k, .int .i64 m, .int .i64 s, .slice A xs.length c] ∧ I64 k ∧ I64 m ∧ I64 s ∧ xs.length ≤ c ∧ RA W W.heap.size A xs ∧ xs.length ≤ 140737488351232 := by
  obtain ⟨cs, rfl, hsz⟩ := okWide_struct Try.underlying24 hv
  obtain ⟨fuel, hf⟩ := h
  obtain ⟨ys, n, _, hd, hlen, hyl, hg⟩ := DataW.trod_struct Try.underlying24 hf
  have hc : Try.prog.cellsOf 24 = 4 := by kernel_rfl
  rw [hc] at hlen
  obtain ⟨hd, _⟩ := Prod.mk.injEq .. ▸ hd
  subst hd
  obtain ⟨l⟩ := cs
  match l, hlen with
  | [v0, v1, v2, v3], _ =>
    match ys, hyl with
    | [y0, y1, y2, y3], _ =>
      have g0 := hg 0 _ rfl
      have g1 := hg 1 _ rfl
      have g2 := hg 2 _ rfl
      have g3 := hg 3 _ rfl
      have k0 : DataW.trod enc Try.prog W 0 (fun _ => true) true n 3 [v0] = some y0 := g0
      have k1 : DataW.trod enc Try.prog W 0 (fun _ => true) true n 3 [v1] = some y1 := g1
      have k2 : DataW.trod enc Try.prog W 0 (fun _ => true) true n 3 [v2] = some y2 := g2
      have k3 : DataW.trod enc Try.prog W 0 (fun _ => true) true n 22 [v3] = some y3 := g3
      obtain ⟨z0, e0, _, w0⟩ := DataW.trod_int Try.underlying3 k0
      obtain ⟨z1, e1, _, w1⟩ := DataW.trod_int Try.underlying3 k1
      obtain ⟨z2, e2, _, w2⟩ := DataW.trod_int Try.underlying3 k2
      obtain ⟨A, c, xs, rfl, h1, h2, h3⟩ := trod_acts k3 (hs.part Try.underlying24 (j := 3) rfl rfl)
      simp at e0 e1 e2
      exact ⟨z0, z1, z2, A, c, xs, by rw [e0, e1, e2], I64.of w0, I64.of w1, I64.of w2, h1, h2, h3⟩
theorem open_two {W : World} {base : Nat} {v : Value} {d : DataW H} {p : List MemPlace} (hv : Value.okWide Try.prog W .any base 45 v) (h : DataW.Trod enc Try.prog W 0 (fun _ => true) true 45 v d p) (hs : Sm Try.prog 45 d) :
    ∃ (k m s k' m' s' : Int) (A : Option Addr) (c : Nat) (xs : List ActP) (A' : Option Addr) (c' : Nat) (xs' : List ActP), v = .agg #[.int .i64 k, .int .i64 m, .int .i64 s, .int .i64 k', .int .i64 m', .int .i64 s', .slice A xs.length c, .slice A' xs'.length c'] ∧
      (I64 k ∧ I64 m ∧ I64 s) ∧ (I64 k' ∧ I64 m' ∧ I64 s') ∧ (xs.length ≤ c ∧ RA W W.heap.size A xs ∧ xs.length ≤ 140737488351232) ∧ (xs'.length ≤ c' ∧ RA W W.heap.size A' xs' ∧ xs'.length ≤ 140737488351232) := by
  obtain ⟨cs, rfl, hsz⟩ := okWide_struct Try.underlying45 hv
  obtain ⟨fuel, hf⟩ := h
  obtain ⟨ys, n, _, hd, hlen, hyl, hg⟩ := DataW.trod_struct Try.underlying45 hf
  have hc : Try.prog.cellsOf 45 = 8 := by kernel_rfl
  rw [hc] at hlen
  obtain ⟨hd, _⟩ := Prod.mk.injEq .. ▸ hd
  subst hd
  obtain ⟨l⟩ := cs
  match l, hlen with
  | [v0, v1, v2, v3, v4, v5, v6, v7], _ =>
    match ys, hyl with
    | [y0, y1, y2, y3], _ =>
      have g0 := hg 0 _ rfl
      have g1 := hg 1 _ rfl
      have g2 := hg 2 _ rfl
      have g3 := hg 3 _ rfl
      have k0 : DataW.trod enc Try.prog W 0 (fun _ => true) true n 39 [v0, v1, v2] = some y0 := g0
      have k1 : DataW.trod enc Try.prog W 0 (fun _ => true) true n 39 [v3, v4, v5] = some y1 := g1
      have k2 : DataW.trod enc Try.prog W 0 (fun _ => true) true n 22 [v6] = some y2 := g2
      have k3 : DataW.trod enc Try.prog W 0 (fun _ => true) true n 22 [v7] = some y3 := g3
      obtain ⟨a0, a1, a2, e0, w0⟩ := trod_shape k0
      obtain ⟨b0, b1, b2, e1, w1⟩ := trod_shape k1
      obtain ⟨A, c, xs, rfl, h1⟩ := trod_acts k2 (hs.part Try.underlying45 (j := 2) rfl rfl)
      obtain ⟨A', c', xs', rfl, h2⟩ := trod_acts k3 (hs.part Try.underlying45 (j := 3) rfl rfl)
      simp at e0 e1
      obtain ⟨rfl, rfl, rfl⟩ := e0
      obtain ⟨rfl, rfl, rfl⟩ := e1
      exact ⟨_, _, _, _, _, _, A, c, xs, A', c', xs', rfl, w0, w1, h1, h2⟩
end
end Go.Proofs.Ytdjphdkoljfndaa
