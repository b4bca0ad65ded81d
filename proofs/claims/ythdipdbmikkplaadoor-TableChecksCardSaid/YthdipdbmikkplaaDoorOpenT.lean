/- A table that came in. -/
import Derived.Test.YthdipdbmikkplaaDoorSm
import Derived.Test.YthdipdbmikkplaaDoorTab
import Derived.Test.YthdipdbmikkplaaDoorPost
import Derived.Deep.Slices
import Derived.Deep.Fields
import Derived.Deep.MidRow
namespace Go.Proofs.YthdipdbmikkplaaDoor
open Go.RowKit Go.WideShapes Go.ChangeShapes Go.Deep Nac Nac.Table
section
variable {H : Type} {enc : TypeId × Value → H}
theorem spot_none {W : World} {a : Addr} {v : Value} (h : W.cell? a = some v) : a.spot = none := by
  cases hs : a.spot with
  | none => rfl
  | some x =>
    unfold World.cell? at h
    split at h
    · simp [hs] at h
    · cases h
theorem add_zero' (a : Addr) : a.add 0 = a := by simp [Addr.add]
/-- a window, by its reading -/
theorem trod_win {W : World} {fuel : Nat} {cs : List Value} {y : DataW H × List MemPlace} (h : DataW.trod enc Tryd.prog W 0 (fun _ => true) true fuel 39 cs = some y) :
    ∃ x : Win, cs = [.int .i64 x.part, .int .i64 x.start, .int .i64 x.ticks] ∧ WinOk x := by
  obtain ⟨ys, n, _, rfl, hlen, hyl, hf⟩ := DataW.trod_struct Tryd.underlying39 h
  have hc : Tryd.prog.cellsOf 39 = 3 := by kernel_rfl
  rw [hc] at hlen
  match cs, hlen with
  | [v0, v1, v2], _ =>
    match ys, hyl with
    | [y0, y1, y2], _ =>
      have g0 := hf 0 _ rfl
      have g1 := hf 1 _ rfl
      have g2 := hf 2 _ rfl
      have k0 : DataW.trod enc Tryd.prog W 0 (fun _ => true) true n 3 [v0] = some y0 := g0
      have k1 : DataW.trod enc Tryd.prog W 0 (fun _ => true) true n 3 [v1] = some y1 := g1
      have k2 : DataW.trod enc Tryd.prog W 0 (fun _ => true) true n 3 [v2] = some y2 := g2
      obtain ⟨z0, e0, _, w0⟩ := DataW.trod_int Tryd.underlying3 k0
      obtain ⟨z1, e1, _, w1⟩ := DataW.trod_int Tryd.underlying3 k1
      obtain ⟨z2, e2, _, w2⟩ := DataW.trod_int Tryd.underlying3 k2
      simp at e0 e1 e2
      exact ⟨⟨z0, z1, z2⟩, by rw [e0, e1, e2], ⟨I64.of w0, I64.of w1, I64.of w2⟩⟩
instance : Inhabited Win := ⟨oops⟩
/-- windows, by their reading -/
theorem trod_wins {W : World} {fuel : Nat} {v : Value} {y : DataW H × List MemPlace} (h : DataW.trod enc Tryd.prog W 0 (fun _ => true) true fuel 22 [v] = some y) (hs : Sm Tryd.prog 22 y.1) :
    ∃ A c xs, v = .slice A xs.length c ∧ xs.length ≤ c ∧ RW W W.heap.size A xs ∧ c ≤ 140737488351232 := by
  have hc3 : Tryd.prog.cellsOf 39 = 3 := by kernel_rfl
  have hb24 : Tryd.prog.bytesOf 39 = 24 := by kernel_rfl
  rcases open_slice Tryd.underlying22 h with ⟨hcs, hx⟩ | ⟨a, len, cap, m, n, D, Pl, hcs, _, hl, hm, hmm, hx, hi⟩
  · simp at hcs
    subst hcs
    exact ⟨none, 0, [], rfl, Nat.le_refl _, fun h => absurd rfl h, by simp⟩
  · simp at hcs
    subst hcs
    simp only [if_true] at hmm
    subst hmm
    subst hx
    have hsl := hs.len Tryd.underlying22
    rw [hb24] at hsl
    simp only [List.length_map, List.length_range, reachBytes] at hsl
    have hex : ∀ i, i < len → ∃ x : Win, W.cell? (a.add (i * 3)) = some (.int .i64 x.part) ∧ W.cell? ((a.add (i * 3)).add 1) = some (.int .i64 x.start) ∧ W.cell? ((a.add (i * 3)).add 2) = some (.int .i64 x.ticks) ∧ WinOk x := by
      intro i hil
      obtain ⟨cs', h1, h2⟩ := hi i (by omega)
      rw [hc3] at h1
      obtain ⟨_, hcl, hat⟩ := World.cells?_some h1
      obtain ⟨x, rfl, hfit⟩ := trod_win h2
      refine ⟨x, ?_, hat 1 (by decide), hat 2 (by decide), hfit⟩
      have := hat 0 (by decide)
      rwa [add_zero'] at this
    obtain ⟨X, hX⟩ := choose_lt hex
    have hlen : ((List.range len).map X).length = len := by simp
    refine ⟨some a, m, (List.range len).map X, by rw [hlen], by omega, fun hne => ?_, by omega⟩
    have hpos : 0 < len := by
      rcases Nat.eq_zero_or_pos len with h | h
      · subst h; simp at hne
      · exact h
    have h0 := (hX 0 hpos).1
    rw [Nat.zero_mul, add_zero'] at h0
    have hblk : a.block < W.heap.size := block_lt_of_cell h0
    have hspot := spot_none h0
    obtain ⟨b, o, s⟩ := a
    simp only at hspot
    subst hspot
    refine ⟨b, o, rfl, hblk, fun j hj => ?_⟩
    have hj' : j < len := by omega
    obtain ⟨h1, h2, h3, h4⟩ := hX j hj'
    rw [Addr.add_mid] at h1 h2 h3
    rw [Addr.add_mid] at h2 h3
    have e : ((List.range len).map X)[j] = X j := by simp
    rw [e]
    exact ⟨h1, h2, h3, h4⟩
theorem open_table {W : World} {base : Nat} {v : Value} {d : DataW H} {p : List MemPlace} (hv : Value.okWide Tryd.prog W .any base 24 v) (h : DataW.Trod enc Tryd.prog W 0 (fun _ => true) true 24 v d p) (hs : Sm Tryd.prog 24 d) :
    ∃ (T : Int) (A : Option Addr) (c : Nat) (xs : List Win), v = .agg #[.int .i64 T, .slice A xs.length c] ∧ I64 T ∧ xs.length ≤ c ∧ RW W W.heap.size A xs ∧ c ≤ 140737488351232 := by
  obtain ⟨cs, rfl, hsz⟩ := okWide_struct Tryd.underlying24 hv
  obtain ⟨fuel, hf⟩ := h
  obtain ⟨ys, n, _, hd, hlen, hyl, hg⟩ := DataW.trod_struct Tryd.underlying24 hf
  have hc : Tryd.prog.cellsOf 24 = 2 := by kernel_rfl
  rw [hc] at hlen
  obtain ⟨hd, _⟩ := Prod.mk.injEq .. ▸ hd
  subst hd
  obtain ⟨l⟩ := cs
  match l, hlen with
  | [v0, v1], _ =>
    match ys, hyl with
    | [y0, y1], _ =>
      have g0 := hg 0 _ rfl
      have g1 := hg 1 _ rfl
      have k0 : DataW.trod enc Tryd.prog W 0 (fun _ => true) true n 3 [v0] = some y0 := g0
      have k1 : DataW.trod enc Tryd.prog W 0 (fun _ => true) true n 22 [v1] = some y1 := g1
      obtain ⟨z0, e0, _, w0⟩ := DataW.trod_int Tryd.underlying3 k0
      obtain ⟨A, c, xs, rfl, h1, h2, h3⟩ := trod_wins k1 (hs.part Tryd.underlying24 (j := 1) rfl rfl)
      simp at e0
      exact ⟨z0, A, c, xs, by rw [e0], I64.of w0, h1, h2, h3⟩
end
end Go.Proofs.YthdipdbmikkplaaDoor
