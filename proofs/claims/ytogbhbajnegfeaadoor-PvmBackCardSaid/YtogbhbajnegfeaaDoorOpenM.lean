/- Instructions, words and a machine that came in. -/
import Derived.Test.YtogbhbajnegfeaaDoorSm
import Derived.Test.YtogbhbajnegfeaaDoorPvmVal
import Derived.Test.YtogbhbajnegfeaaDoorPost
import Derived.OpenShut
import Derived.Deep.Slices
import Derived.Deep.Fields
import Derived.Deep.MidRow
namespace Go.Proofs.YtogbhbajnegfeaaDoor
open Go.RowKit Go.WideShapes Go.ChangeShapes Go.Deep Nac Nac.Pvm
section
variable {H : Type} {enc : TypeId × Value → H}
theorem spot_noneM {W : World} {a : Addr} {v : Value} (h : W.cell? a = some v) : a.spot = none := by
  cases hs : a.spot with
  | none => rfl
  | some x =>
    unfold World.cell? at h
    split at h
    · simp [hs] at h
    · cases h
theorem add_zeroM (a : Addr) : a.add 0 = a := by simp [Addr.add]
theorem u8_of {z : Int} (h : (Lit.int .u8 z).wf = true) : ∃ n : Nat, z = n ∧ n < 256 := by
  simp [Lit.wf, IntKind.min, IntKind.max, IntKind.signed, IntKind.bits] at h
  exact ⟨z.toNat, by omega, by omega⟩
set_option maxRecDepth 100000 in
/-- an instruction, by its reading -/
theorem trod_ins {W : World} {fuel : Nat} {cs : List Value} {y : DataW H × List MemPlace} (h : DataW.trod enc Tryd.prog W 0 (fun _ => true) true fuel 56 cs = some y) :
    ∃ x : Ins, cs = [.int .u8 x.op, .int .u8 x.a, .int .u8 x.b, .int .u8 x.c] ∧ x.fits := by
  obtain ⟨ys, n, _, rfl, hlen, hyl, hf⟩ := DataW.trod_struct Tryd.underlying56 h
  have hc : Tryd.prog.cellsOf 56 = 4 := by kernel_rfl
  rw [hc] at hlen
  match cs, hlen with
  | [v0, v1, v2, v3], _ =>
    match ys, hyl with
    | [y0, y1, y2, y3], _ =>
      have g0 := hf 0 _ rfl
      have g1 := hf 1 _ rfl
      have g2 := hf 2 _ rfl
      have g3 := hf 3 _ rfl
      have k0 : DataW.trod enc Tryd.prog W 0 (fun _ => true) true n 5 [v0] = some y0 := g0
      have k1 : DataW.trod enc Tryd.prog W 0 (fun _ => true) true n 5 [v1] = some y1 := g1
      have k2 : DataW.trod enc Tryd.prog W 0 (fun _ => true) true n 5 [v2] = some y2 := g2
      have k3 : DataW.trod enc Tryd.prog W 0 (fun _ => true) true n 5 [v3] = some y3 := g3
      obtain ⟨z0, e0, _, w0⟩ := DataW.trod_int Tryd.underlying5 k0
      obtain ⟨z1, e1, _, w1⟩ := DataW.trod_int Tryd.underlying5 k1
      obtain ⟨z2, e2, _, w2⟩ := DataW.trod_int Tryd.underlying5 k2
      obtain ⟨z3, e3, _, w3⟩ := DataW.trod_int Tryd.underlying5 k3
      simp at e0 e1 e2 e3
      obtain ⟨n0, rfl, f0⟩ := u8_of w0
      obtain ⟨n1, rfl, f1⟩ := u8_of w1
      obtain ⟨n2, rfl, f2⟩ := u8_of w2
      obtain ⟨n3, rfl, f3⟩ := u8_of w3
      exact ⟨⟨n0, n1, n2, n3⟩, by rw [e0, e1, e2, e3], ⟨f0, f1, f2, f3⟩⟩
/-- instructions, by their reading -/
theorem trod_inss {W : World} {fuel : Nat} {v : Value} {y : DataW H × List MemPlace} (h : DataW.trod enc Tryd.prog W 0 (fun _ => true) true fuel 34 [v] = some y) (hs : Sm Tryd.prog 34 y.1) :
    ∃ A c xs, v = .slice A xs.length c ∧ xs.length ≤ c ∧ RIn W W.heap.size A xs ∧ c ≤ 140737488351232 := by
  have hc3 : Tryd.prog.cellsOf 56 = 4 := by kernel_rfl
  have hb24 : Tryd.prog.bytesOf 56 = 4 := by kernel_rfl
  rcases open_slice Tryd.underlying34 h with ⟨hcs, hx⟩ | ⟨a, len, cap, m, n, D, Pl, hcs, _, hl, hm, hmm, hx, hi⟩
  · simp at hcs
    subst hcs
    exact ⟨none, 0, [], rfl, Nat.le_refl _, fun h => absurd rfl h, by simp⟩
  · simp at hcs
    subst hcs
    simp only [if_true] at hmm
    subst hmm
    subst hx
    have hsl := hs.len Tryd.underlying34
    rw [hb24] at hsl
    simp only [List.length_map, List.length_range, reachBytes] at hsl
    have hex : ∀ i, i < len → ∃ x : Ins, W.cell? (a.add (i * 4)) = some (.int .u8 x.op) ∧ W.cell? ((a.add (i * 4)).add 1) = some (.int .u8 x.a) ∧ W.cell? ((a.add (i * 4)).add 2) = some (.int .u8 x.b) ∧ W.cell? ((a.add (i * 4)).add 3) = some (.int .u8 x.c) ∧ x.fits := by
      intro i hil
      obtain ⟨cs', h1, h2⟩ := hi i (by omega)
      rw [hc3] at h1
      obtain ⟨_, hcl, hat⟩ := World.cells?_some h1
      obtain ⟨x, rfl, hfit⟩ := trod_ins h2
      refine ⟨x, ?_, hat 1 (by decide), hat 2 (by decide), hat 3 (by decide), hfit⟩
      have := hat 0 (by decide)
      rwa [add_zeroM] at this
    obtain ⟨X, hX⟩ := choose_lt hex
    have hlen : ((List.range len).map X).length = len := by simp
    refine ⟨some a, m, (List.range len).map X, by rw [hlen], by omega, fun hne => ?_, by omega⟩
    have hpos : 0 < len := by
      rcases Nat.eq_zero_or_pos len with h | h
      · subst h; simp at hne
      · exact h
    have h0 := (hX 0 hpos).1
    rw [Nat.zero_mul, add_zeroM] at h0
    have hblk : a.block < W.heap.size := block_lt_of_cell h0
    have hspot := spot_noneM h0
    obtain ⟨b, o, s⟩ := a
    simp only at hspot
    subst hspot
    refine ⟨b, o, rfl, hblk, fun j hj => ?_⟩
    have hj' : j < len := by omega
    obtain ⟨h1, h2, h3, h4, h5⟩ := hX j hj'
    rw [Addr.add_mid] at h1 h2 h3 h4
    rw [Addr.add_mid] at h2 h3 h4
    have e : ((List.range len).map X)[j] = X j := by simp
    rw [e]
    exact ⟨h1, h2, h3, h4, h5⟩
set_option maxRecDepth 100000 in
theorem open_inss {W : World} {base : Nat} {v : Value} {d : DataW H} {p : List MemPlace} (hv : Value.okWide Tryd.prog W .any base 34 v) (h : DataW.Trod enc Tryd.prog W 0 (fun _ => true) true 34 v d p) (hs : Sm Tryd.prog 34 d) :
    ∃ (A : Option Addr) (c : Nat) (xs : List Ins), v = .slice A xs.length c ∧ xs.length ≤ c ∧ RIn W W.heap.size A xs ∧ c ≤ 140737488351232 := by
  obtain ⟨a0, len, cap, rfl⟩ := okWide_slice Tryd.underlying34 hv
  obtain ⟨fuel, hf⟩ := h
  obtain ⟨A, c, xs, h1, h2, h3, h4⟩ := trod_inss (v := .slice a0 len cap) hf hs
  exact ⟨A, c, xs, h1, h2, h3, h4⟩
set_option maxRecDepth 100000 in
/-- words, by their reading -/
theorem trod_words {W : World} {fuel : Nat} {v : Value} {y : DataW H × List MemPlace} (h : DataW.trod enc Tryd.prog W 0 (fun _ => true) true fuel 24 [v] = some y) (hs : Sm Tryd.prog 24 y.1) :
    ∃ A c, ∃ xs : List Int, v = .slice A xs.length c ∧ xs.length ≤ c ∧ RWd W W.heap.size A xs ∧ c ≤ 17592186044414 ∧ ∀ z ∈ xs, (Lit.int .i64 z).wf = true := by
  have hc3 : Tryd.prog.cellsOf 2 = 1 := by kernel_rfl
  have hb24 : Tryd.prog.bytesOf 2 = 8 := by kernel_rfl
  rcases open_slice Tryd.underlying24 h with ⟨hcs, hx⟩ | ⟨a, len, cap, m, n, D, Pl, hcs, _, hl, hm, hmm, hx, hi⟩
  · simp at hcs
    subst hcs
    exact ⟨none, 0, [], rfl, Nat.le_refl _, fun h => absurd rfl h, by simp, by simp⟩
  · simp at hcs
    subst hcs
    simp only [if_true] at hmm
    subst hmm
    subst hx
    have hsl := hs.len Tryd.underlying24
    rw [hb24] at hsl
    simp only [List.length_map, List.length_range, reachBytes] at hsl
    have hex : ∀ i, i < len → ∃ x : Int, W.cell? (a.add (i * 1)) = some (.int .i64 x) ∧ (Lit.int .i64 x).wf = true := by
      intro i hil
      obtain ⟨cs', h1, h2⟩ := hi i (by omega)
      rw [hc3] at h1
      obtain ⟨_, hcl, hat⟩ := World.cells?_some h1
      match cs', hcl with
      | [v0], _ =>
        obtain ⟨z0, e0, _, w0⟩ := DataW.trod_int Tryd.underlying2 h2
        simp at e0
        subst e0
        refine ⟨z0, ?_, w0⟩
        have := hat 0 (by decide)
        rwa [add_zeroM] at this
    obtain ⟨X, hX⟩ := choose_lt hex
    have hlen : ((List.range len).map X).length = len := by simp
    refine ⟨some a, m, (List.range len).map X, by rw [hlen], by omega, fun hne => ?_, by omega, ?_⟩
    · have hpos : 0 < len := by
        rcases Nat.eq_zero_or_pos len with h | h
        · subst h; simp at hne
        · exact h
      have h0 := (hX 0 hpos).1
      rw [Nat.zero_mul, add_zeroM] at h0
      have hblk : a.block < W.heap.size := block_lt_of_cell h0
      have hspot := spot_noneM h0
      obtain ⟨b, o, s⟩ := a
      simp only at hspot
      subst hspot
      refine ⟨b, o, rfl, hblk, fun j hj => ?_⟩
      have hj' : j < len := by omega
      obtain ⟨h1, h2⟩ := hX j hj'
      rw [Addr.add_mid, Nat.mul_one] at h1
      have e : ((List.range len).map X)[j] = X j := by simp
      rw [e]
      exact h1
    · intro z hz
      obtain ⟨j, hj, rfl⟩ := List.mem_map.1 hz
      exact (hX j (by simpa using hj)).2
set_option maxRecDepth 100000 in
theorem trod_regs {W : World} {fuel : Nat} {cs : List Value} {y : DataW H × List MemPlace} (h : DataW.trod enc Tryd.prog W 0 (fun _ => true) true fuel 23 cs = some y) :
    ∃ r : List Int, r.length = 8 ∧ cs = r.map (Value.int .i64) ∧ ∀ z ∈ r, (Lit.int .i64 z).wf = true := by
  obtain ⟨ys, n, _, _, hlen, hyl, hf⟩ := DataW.trod_array Tryd.underlying23 h
  have hc : Tryd.prog.cellsOf 23 = 8 := by kernel_rfl
  have hc1 : Tryd.prog.cellsOf 2 = 1 := by kernel_rfl
  rw [hc] at hlen
  rw [hc1] at hf
  have hex : ∀ i, i < 8 → ∃ z : Int, cs[i]? = some (.int .i64 z) ∧ (Lit.int .i64 z).wf = true := by
    intro i hi
    have g := hf i hi
    have hy : ys[i]? = some ys[i] := List.getElem?_eq_getElem (by omega)
    have hci : (cs.drop (i * 1)).take 1 = [cs[i]] := by
      rw [Nat.mul_one, List.drop_eq_getElem_cons (by omega)]
      rfl
    rw [hy, hci] at g
    obtain ⟨z0, e0, _, w0⟩ := DataW.trod_int Tryd.underlying2 g
    simp at e0
    exact ⟨z0, by rw [List.getElem?_eq_getElem (by omega), e0], w0⟩
  obtain ⟨X, hX⟩ := choose_lt hex
  refine ⟨(List.range 8).map X, by simp, ?_, ?_⟩
  · apply List.ext_getElem?
    intro i
    rcases Nat.lt_or_ge i 8 with h | h
    · rw [(hX i h).1]
      simp [h]
    · rw [List.getElem?_eq_none (by omega), List.getElem?_eq_none (by simp; omega)]
  · intro z hz
    obtain ⟨j, hj, rfl⟩ := List.mem_map.1 hz
    exact (hX j (by simpa using hj)).2
structure MachFits (m : Mach) : Prop where
  place : (Lit.int .i64 m.place).wf = true
  r : ∀ z ∈ m.r, (Lit.int .i64 z).wf = true
  mem : ∀ z ∈ m.mem, (Lit.int .i64 z).wf = true
  state : (Lit.int .i64 m.state).wf = true
  trap : (Lit.int .i64 m.trap).wf = true
set_option maxRecDepth 100000 in
theorem open_mach {W : World} {base : Nat} {v : Value} {d : DataW H} {p : List MemPlace} (hv : Value.okWide Tryd.prog W .any base 27 v) (h : DataW.Trod enc Tryd.prog W 0 (fun _ => true) true 27 v d p) (hs : Sm Tryd.prog 27 d) :
    ∃ (m : Mach) (A : Option Addr) (c : Nat), v = mv m A c ∧ m.r.length = 8 ∧ m.mem.length ≤ c ∧ RWd W W.heap.size A m.mem ∧ c ≤ 17592186044414 ∧ MachFits m := by
  obtain ⟨cs, rfl, hsz⟩ := okWide_struct Tryd.underlying27 hv
  obtain ⟨fuel, hf⟩ := h
  obtain ⟨ys, n, _, hd, hlen, hyl, hg⟩ := DataW.trod_struct Tryd.underlying27 hf
  have hc : Tryd.prog.cellsOf 27 = 12 := by kernel_rfl
  rw [hc] at hlen
  obtain ⟨hd, _⟩ := Prod.mk.injEq .. ▸ hd
  subst hd
  obtain ⟨l⟩ := cs
  match l, hlen with
  | [v0, v1, v2, v3, v4, v5, v6, v7, v8, v9, v10, v11], _ =>
    match ys, hyl with
    | [y0, y1, y2, y3, y4], _ =>
      have g0 := hg 0 _ rfl
      have g1 := hg 1 _ rfl
      have g2 := hg 2 _ rfl
      have g3 := hg 3 _ rfl
      have g4 := hg 4 _ rfl
      have k0 : DataW.trod enc Tryd.prog W 0 (fun _ => true) true n 3 [v0] = some y0 := g0
      have k1 : DataW.trod enc Tryd.prog W 0 (fun _ => true) true n 23 [v1, v2, v3, v4, v5, v6, v7, v8] = some y1 := g1
      have k2 : DataW.trod enc Tryd.prog W 0 (fun _ => true) true n 24 [v9] = some y2 := g2
      have k3 : DataW.trod enc Tryd.prog W 0 (fun _ => true) true n 3 [v10] = some y3 := g3
      have k4 : DataW.trod enc Tryd.prog W 0 (fun _ => true) true n 25 [v11] = some y4 := g4
      obtain ⟨z0, e0, _, w0⟩ := DataW.trod_int Tryd.underlying3 k0
      obtain ⟨r, hr, er, wr⟩ := trod_regs k1
      obtain ⟨A, c, xs, rfl, h1, h2, h3, h4⟩ := trod_words k2 (hs.part Tryd.underlying27 (j := 2) rfl rfl)
      obtain ⟨z3, e3, _, w3⟩ := DataW.trod_int Tryd.underlying3 k3
      obtain ⟨z4, e4, _, w4⟩ := DataW.trod_int Tryd.underlying25 k4
      simp at e0 e3 e4
      refine ⟨⟨z0, r, xs, z3, z4⟩, A, c, ?_, hr, h1, h2, h3, ⟨w0, wr, h4, w3, w4⟩⟩
      unfold mv mcs
      simp only
      rw [← er, e0, e3, e4]
      rfl
end
end Go.Proofs.YtogbhbajnegfeaaDoor
