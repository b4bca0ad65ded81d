/- Bundle 7 of the texts OpenI, Bld, Ext, ImgA, Join, ImgB, TopListA, TopDec. -/
import Derived.Test.YtjfpoahmjgeogaaGreatDoorIc6
import Derived.Test.YtjfpoahmjgeogaaGreatDoorIc1
import Derived.Test.YtjfpoahmjgeogaaGreatDoorIc4
import Derived.Laws.Tables
import Derived.Lib.MakeNoZero
import Derived.Laws.Externs
import Derived.Test.YtjfpoahmjgeogaaGreatDoorIc2
import Derived.IntWalk
import Derived.Great.BuildSlice
import Derived.Test.YtjfpoahmjgeogaaGreatDoorIc5
import Derived.Test.YtjfpoahmjgeogaaGreatDoorIc3
/- Installs that came in. (printed by tools/popeni.py) -/
namespace Go.Proofs.YtjfpoahmjgeogaaGreatDoor
open Go.RowKit Go.WideShapes Go.ChangeShapes Go.Deep Nac Nac.Pvm
theorem Tryz.cellsByteI : Tryz.prog.cellsOf 5 = 1 := by kernel_rfl
theorem Tryz.bytesByteI : Tryz.prog.bytesOf 5 = 1 := by kernel_rfl
section
variable {H : Type} {enc : TypeId × Value → H}
theorem trod_bytesI {W : World} {fuel : Nat} {v : Value} {y : DataW H × List MemPlace} (h : DataW.trod enc Tryz.prog W 0 (fun _ => true) true fuel 36 [v] = some y) (hs : Sm Tryz.prog 36 y.1) :
    ∃ A c l, v = .slice A l.length c ∧ l.length ≤ c ∧ RB W W.heap.size A l ∧ l.length ≤ 140737488351232 := by
  rcases open_ints Tryz.underlying36 Tryz.underlying5 Tryz.cellsByteI h with ⟨hcs, hx⟩ | ⟨a, len, cap, zs, hcs, _, hl, hm, hz, hx, hcell, hwz⟩
  · simp at hcs
    subst hcs
    exact ⟨none, 0, [], rfl, Nat.le_refl _, RB.nil _ _ _, by simp⟩
  · simp at hcs
    subst hcs
    simp only [if_true] at hz
    subst hx
    have hs := hs.len Tryz.underlying36
    rw [Tryz.bytesByteI] at hs
    simp only [lits, List.length_map, List.length_take, List.length_drop, reachBytes] at hs
    have hlen : ((zs.take len).map fun z => UInt8.ofNat z.toNat).length = len := by simp; omega
    refine ⟨some a, cap, (zs.take len).map fun z => UInt8.ofNat z.toNat, by rw [hlen], by omega, fun hne => ?_, by omega⟩
    have hpos : 0 < len := by
      rcases Nat.eq_zero_or_pos len with h | h
      · subst h; simp at hne
      · exact h
    have h0 := hcell 0 (by omega)
    rw [add_zeroM] at h0
    have hblk : a.block < W.heap.size := block_lt_of_cell h0
    have hspot := spot_noneM h0
    obtain ⟨b, o, s⟩ := a
    simp only at hspot
    subst hspot
    refine ⟨b, o, rfl, hblk, fun j hj => ?_⟩
    have hc := hcell j (by omega)
    have e : (⟨b, o, none⟩ : Addr).add j = ⟨b, o + j, none⟩ := by unfold Addr.add; split <;> simp_all
    rw [e] at hc
    rw [hc]
    have hjz : j < zs.length := by omega
    have hw := hwz zs[j] (List.getElem_mem hjz)
    have hb : 0 ≤ zs[j] ∧ zs[j] ≤ 255 := by simpa [Lit.wf, IntKind.min, IntKind.max, IntKind.signed, IntKind.bits] using hw
    simp only [List.getElem_map, List.getElem_take, List.getD, List.getElem?_eq_getElem hjz, Option.getD_some, UInt8.toNat_ofNat']
    congr 2
    omega
theorem trod_rowsI {S E : TypeId} {k bs : Nat} (hu : Tryz.prog.underlying S = some (.slice E)) (hk : Tryz.prog.cellsOf E = k) (hkp : 0 < k) (hbs : Tryz.prog.bytesOf E = bs) (hbp : 0 < bs) {X : Type} [Inhabited X] (cells : X → List Value) (fits : X → Prop) (hcl : ∀ x, (cells x).length = k)
    {W : World} (helem : ∀ {fuel : Nat} {cs : List Value} {y : DataW H × List MemPlace}, DataW.trod enc Tryz.prog W 0 (fun _ => true) true fuel E cs = some y → Sm Tryz.prog E y.1 → ∃ x, cs = cells x ∧ fits x)
    {fuel : Nat} {v : Value} {y : DataW H × List MemPlace} (h : DataW.trod enc Tryz.prog W 0 (fun _ => true) true fuel S [v] = some y) (hs : Sm Tryz.prog S y.1) :
    ∃ (A : Option Addr) (c : Nat) (xs : List X), v = .slice A xs.length c ∧ (xs.length ≤ c ∧ c ≤ maxLen) ∧ (xs ≠ [] → ∃ g o, A = some ⟨g, o, none⟩ ∧ g < W.heap.size ∧ ∀ i (h : i < xs.length), W.rangeAt g (o + i * k) (cells xs[i])) ∧ xs.length ≤ 140737488351232 ∧ (∀ x ∈ xs, fits x) ∧ (A = none → c = 0) := by
  rcases open_slice hu h with ⟨hcs, hx⟩ | ⟨a, len, cap, m, n, D, Pl, hcs, _, hl, hm, hmm, hx, hi⟩
  · simp at hcs
    subst hcs
    exact ⟨none, 0, [], rfl, ⟨Nat.le_refl _, Nat.zero_le _⟩, fun h => absurd rfl h, by simp, by simp, fun _ => rfl⟩
  · simp at hcs
    subst hcs
    simp only [if_true] at hmm
    subst hmm
    subst hx
    have hsl := hs.len hu
    rw [hbs] at hsl
    simp only [List.length_map, List.length_range, reachBytes] at hsl
    have hlb : len ≤ len * bs := Nat.le_mul_of_pos_right _ hbp
    have hlb2 : len * bs ≤ (len + (m - len)) * bs := Nat.mul_le_mul_right _ (by omega)
    have hex : ∀ i, i < len → ∃ x : X, (∀ f v, (cells x)[f]? = some v → W.cell? ((a.add (i * k)).add f) = some v) ∧ fits x := by
      intro i hil
      obtain ⟨cs', h1, h2⟩ := hi i (by omega)
      rw [hk] at h1
      obtain ⟨_, hcl', hat⟩ := World.cells?_some h1
      obtain ⟨x, rfl, hfit⟩ := helem h2 (hs.elem hu (by simp only [List.mem_map, List.mem_range]; exact ⟨i, hil, rfl⟩))
      refine ⟨x, fun f v hv => ?_, hfit⟩
      have hf : f < k := by rw [← hcl x]; exact (List.getElem?_eq_some_iff.1 hv).1
      have h3 := hat f hf
      exact h3.trans hv
    obtain ⟨Y, hY⟩ := choose_lt hex
    have hlen : ((List.range len).map Y).length = len := by simp
    refine ⟨some a, m, (List.range len).map Y, by rw [hlen], ⟨by omega, hm⟩, fun hne => ?_, by omega, fun x hx => ?_, fun h => by cases h⟩
    · have hpos : 0 < len := by
        rcases Nat.eq_zero_or_pos len with h | h
        · subst h; simp at hne
        · exact h
      have h0 := (hY 0 hpos).1 0 _ (List.getElem?_eq_getElem (by rw [hcl]; exact hkp))
      rw [Nat.zero_mul, add_zeroM, add_zeroM] at h0
      have hblk : a.block < W.heap.size := block_lt_of_cell h0
      have hspot := spot_noneM h0
      obtain ⟨b, o, s⟩ := a
      simp only at hspot
      subst hspot
      refine ⟨b, o, rfl, hblk, fun j hj f v hv => ?_⟩
      have hj' : j < len := by omega
      have e : ((List.range len).map Y)[j] = Y j := by simp
      rw [e] at hv
      have h1 := (hY j hj').1 f v hv
      rw [Addr.add_mid, Addr.add_mid] at h1
      exact h1
    · obtain ⟨i, hi, rfl⟩ := List.mem_map.1 hx
      exact (hY i (by simpa using hi)).2
theorem elem_boolI {W : World} {fuel : Nat} {cs : List Value} {y : DataW H × List MemPlace} (h : DataW.trod enc Tryz.prog W 0 (fun _ => true) true fuel 4 cs = some y) : ∃ x : Bool, cs = [Value.bool x] ∧ True := by
  obtain ⟨b, e, _⟩ := DataW.trod_bool Tryz.underlying4 h
  exact ⟨b, e, trivial⟩
theorem i64_in {z : Int} (hw : (Lit.int .i64 z).wf = true) : -9223372036854775808 ≤ z ∧ z < 9223372036854775808 := by
  simp [Lit.wf, IntKind.min, IntKind.max, IntKind.signed, IntKind.bits] at hw
  omega
theorem u8_natI {z : Int} (hw : (Lit.int .u8 z).wf = true) : ∃ k : Nat, z = (k : Int) ∧ k < 256 := by
  simp [Lit.wf, IntKind.min, IntKind.max, IntKind.signed, IntKind.bits] at hw
  exact ⟨z.toNat, by omega, by omega⟩
instance : Inhabited Inst := ⟨⟨none, 0, [], none, 0, [], 0, 0, none, 0, []⟩⟩
set_option maxRecDepth 100000 in
theorem elem_inst {W : World} {fuel : Nat} {cs : List Value} {y : DataW H × List MemPlace} (h : DataW.trod enc Tryz.prog W 0 (fun _ => true) true fuel 39 cs = some y) (hs : Sm Tryz.prog 39 y.1) : ∃ x : Inst, cs = xcells x ∧ x.ok W := by
  obtain ⟨ys, n, _, rfl, hlen, hyl, hf⟩ := DataW.trod_struct Tryz.underlying39 h
  have hc : Tryz.prog.cellsOf 39 = 5 := by kernel_rfl
  rw [hc] at hlen
  match cs, hlen with
  | [v0, v1, v2, v3, v4], _ =>
    match ys, hyl with
    | [y0, y1, y2, y3, y4], _ =>
      have k0 : DataW.trod enc Tryz.prog W 0 (fun _ => true) true n 35 [v0] = some y0 := hf 0 _ rfl
      have k1 : DataW.trod enc Tryz.prog W 0 (fun _ => true) true n 36 [v1] = some y1 := hf 1 _ rfl
      have k2 : DataW.trod enc Tryz.prog W 0 (fun _ => true) true n 3 [v2] = some y2 := hf 2 _ rfl
      have k3 : DataW.trod enc Tryz.prog W 0 (fun _ => true) true n 3 [v3] = some y3 := hf 3 _ rfl
      have k4 : DataW.trod enc Tryz.prog W 0 (fun _ => true) true n 37 [v4] = some y4 := hf 4 _ rfl
      obtain ⟨A0, c0, l, rfl, h1, h2, h3⟩ := trod_inss k0 (hs.part Tryz.underlying39 (j := 0) rfl rfl)
      obtain ⟨A1, c1, bs, rfl, j1, j2, j3⟩ := trod_bytesI k1 (hs.part Tryz.underlying39 (j := 1) rfl rfl)
      obtain ⟨z2, e2, _, w2⟩ := DataW.trod_int Tryz.underlying3 k2
      obtain ⟨z3, e3, _, w3⟩ := DataW.trod_int Tryz.underlying3 k3
      obtain ⟨A4, c4, ks, rfl, q1, q2, q3, _, q5⟩ := trod_rowsI Tryz.underlying37 (k := 1) (by kernel_rfl) (by decide) (bs := 1) (by kernel_rfl) (by decide) (fun x : Bool => [Value.bool x]) (fun _ => True) (fun _ => rfl) (fun h _ => elem_boolI h) k4 (hs.part Tryz.underlying39 (j := 4) rfl rfl)
      simp at e2 e3
      refine ⟨⟨A0, c0, l, A1, c1, bs, z2, z3, A4, c4, ks⟩, by rw [e2, e3]; rfl, ⟨h2, by show l.length ≤ _; omega, j2, j1, j3, fun hne => ?_, q5, q3, i64_in w2, i64_in w3⟩⟩
      obtain ⟨g, o, hA, hg, hr⟩ := q2 hne
      refine ⟨g, o, hA, hg, fun j hj => ?_⟩
      have h := hr j hj 0 _ rfl
      rw [Nat.mul_one] at h
      exact h
set_option maxRecDepth 100000 in
theorem open_insts {W : World} {base : Nat} {v : Value} {d : DataW H} {p : List MemPlace} (hv : Value.okWide Tryz.prog W .any base 22 v) (h : DataW.Trod enc Tryz.prog W 0 (fun _ => true) true 22 v d p) (hs : Sm Tryz.prog 22 d) :
    ∃ (A : Option Addr) (c : Nat) (xs : List Inst), v = .slice A xs.length c ∧ RInst W A xs ∧ (∀ x ∈ xs, x.ok W) ∧ xs.length ≤ 140737488351232 := by
  obtain ⟨a0, len, cap, rfl⟩ := okWide_slice Tryz.underlying22 hv
  obtain ⟨fuel, hf⟩ := h
  have hf' : DataW.trod enc Tryz.prog W 0 (fun _ => true) true fuel 22 [.slice a0 len cap] = some (d, p) := hf
  obtain ⟨A, c, xs, e, _, h2, h3, h4, _⟩ := trod_rowsI Tryz.underlying22 (k := 5) (by kernel_rfl) (by decide) (bs := 88) (by kernel_rfl) (by decide) xcells (fun x => x.ok W) (fun _ => rfl) (fun h s => elem_inst h s) hf' hs
  exact ⟨A, c, xs, e, fun hne => by
    obtain ⟨g, o, hA, hg, hr⟩ := h2 hne
    exact ⟨g, o, hA, hg, hr⟩, h4, h3⟩
end
end Go.Proofs.YtjfpoahmjgeogaaGreatDoor
/- A struct that is built of its parts: as an arm of a walk, and in a region that draws its order. -/
namespace Go.Proofs.YtjfpoahmjgeogaaGreatDoor
open Go.RowKit Nac
theorem wpList_buildS {w : World} {ops : Array Oper} {rest : List Oper} {o : Oper} {a : Act} {Q : Exit → Act → World → Prop} (hg : o.guard = none) (T : TypeId) (parts : Array (Nat × Operand)) (hop : o.op = .build T parts) (vals : Array (Nat × Value)) (cells : Array Value) (he : parts.map (fun x => (x.1, a.eval x.2)) = vals)
    (hr : (Instr.build T vals).run Tryz.prog w = .ok (.agg cells) w) (h : wpList Tryz.prog ops Q rest (a.put o.dst (.agg cells)) w) : wpList Tryz.prog ops Q (o :: rest) a w := by
  refine wpList_plain hg fun K hK => ?_
  unfold Oper.wp execOp
  have he' : (parts.map fun (i, x) => (i, a.eval x)) = vals := he
  simp only [hop, Sem.run_bind, he', hr, Result.andThen_ok]
  exact hK _ _ h
section
variable {ops : Array Oper} {Q : Exit → Act → World → Prop} {D : Nat → VD} {a0 : Act} {W0 : World} {i : Nat} {o : Oper}
theorem mstep_buildI (ho : ops[i]? = some o) (hw : ∀ a w, MCtx ops D a0 W0 i a w → Region.wanted o (yielded ops a.tmps) = true) (t : TypeId) (parts : Array (Nat × Operand)) (hop : o.op = .build t parts)
    (vals : Array (Nat × Value)) (cells : Array Value) (he : ∀ a w, MCtx ops D a0 W0 i a w → parts.map (fun x => (x.1, a.eval x.2)) = vals) (hr : ∀ w, (Instr.build t vals).run Tryz.prog w = .ok (.agg cells) w) (hD : D i = .is (.agg cells)) : MStep Tryz.prog ops Q D a0 W0 i :=
  mstep_pure ho hw fun a w c => ⟨.agg cells, by
    have he' : (parts.map fun (i, x) => (i, a.eval x)) = vals := he a w c
    unfold execOp
    simp only [hop, Sem.run_bind, he', hr, Result.andThen_ok]
    rfl, by rw [hD]; rfl⟩
theorem mstep_build2 (ho : ops[i]? = some o) (hw : ∀ a w, MCtx ops D a0 W0 i a w → Region.wanted o (yielded ops a.tmps) = true) (t : TypeId) (x y : Tmp) (i0 i1 : Nat) (hop : o.op = .build t #[(i0, .tmp x), (i1, .tmp y)])
    (kx ky : Nat) (hkx : (preds ops 3 i).contains kx = true) (hky : (preds ops 3 i).contains ky = true) (hx : dstOf ops kx = some x) (hy : dstOf ops ky = some y) (vx vy : Value) (hDx : D kx = .is vx) (hDy : D ky = .is vy)
    (cells : Array Value) (hr : ∀ w, (Instr.build t #[(i0, vx), (i1, vy)]).run Tryz.prog w = .ok (.agg cells) w) (hD : D i = .is (.agg cells)) : MStep Tryz.prog ops Q D a0 W0 i :=
  mstep_buildI ho hw t _ hop _ cells (fun a w c => by
    have h1 := c.pred kx x (by simpa using hkx) hx
    rw [hDx] at h1
    have h1 : a.tmps.getD x undef = vx := h1
    have h2 := c.pred ky y (by simpa using hky) hy
    rw [hDy] at h2
    have h2 : a.tmps.getD y undef = vy := h2
    simp only [List.map_toArray, List.map_cons, List.map_nil, Act.eval, h1, h2]) hr hD
end
end Go.Proofs.YtjfpoahmjgeogaaGreatDoor
/- extent: Lies, New, Place, Size, Read, Write, Flush, Part. -/
namespace Go.Proofs.YtjfpoahmjgeogaaGreatDoor
open Go.RowKit Nac Nac.Img
def PartM (w : World) (bp bd fr cn : Nat) : Prop := Blk w bp [.int .i64 (fr : Int), .int .i64 (cn : Int), .pointer (some ⟨bd, 0, none⟩)]
set_option maxRecDepth 100000 in
theorem lies_calls (w : World) (f c n : Nat) (h1 : 1 ≤ c) (h2 : f + c ≤ n) (h3 : n ≤ 1000) : Calls Tryz.prog 24 #[.agg #[.int .i64 (f : Int), .int .i64 (c : Int)], .int .i64 (n : Int)] w (fun e w' => e = .returned (.bool true) ∧ Below w.heap.size w w') := by
  have q1 : (1 : Int) ≤ (c : Int) := by omega
  have q2 : (0 : Int) ≤ (f : Int) := by omega
  have q3 : (f : Int) ≤ (n : Int) := by omega
  have q4 : (c : Int) ≤ (n : Int) - (f : Int) := by omega
  have q5 : (n : Int) ≤ 1000 := by omega
  clear h1 h2 h3
  go_enter Tryz.func24, Tryz.ntmps24
  go_wp2_with ((with_reducible show wpList _ _ _ (Oper.mk _ (Op.box 31 _) _ _ _ _ :: _) _ _); refine wpList_boxS rfl _ rfl [.int .i64 (f : Int), .int .i64 (c : Int)] (by rfl) ?_)
  intro w1 hb1 hg1 hs1
  have HG1 := Lib.hid hg1
  have c0 := hb1.cell (j := 0) rfl
  have c1 := hb1.cell (j := 1) rfl
  clear hb1 hg1 hs1
  go_wp2_with fail
  go_ret
  exact ⟨by simp <;> omega, gbelow HG1.out⟩
def RetNewP (w : World) (bd fr cn : Nat) (e : Ending) (w' : World) : Prop := ∃ bp, e = .returned (.tuple #[.pointer (some ⟨bp, 0, none⟩), .int .i64 0]) ∧ PartM w' bp bd fr cn ∧ w.heap.size ≤ bp ∧ Below w.heap.size w w'
theorem sExt : SInfo 31 2 := ⟨by kernel_rfl, _, Tryz.underlying31, rfl⟩
set_option maxRecDepth 100000 in
set_option maxHeartbeats 2000000 in
theorem enew_calls (w : World) (bd : Nat) (O : Nat → Prop) (d : Dk) (h : DkM w bd O d) : Calls Tryz.prog 5 #[.pointer (some ⟨bd, 0, none⟩), .agg #[.int .i64 0, .int .i64 40]] w (RetNewP w bd 0 40) := by
  have H := Lib.hid h
  clear h
  go_enter Tryz.func5, Tryz.ntmps5
  go_wp2_with ((with_reducible show wpList _ _ _ (Oper.mk _ (Op.box 31 _) _ _ _ _ :: _) _ _); refine wpList_boxS rfl _ rfl [.int .i64 0, .int .i64 40] (by rfl) ?_)
  intro w1 hb1 hg1 hs1
  have HB1 := Lib.hid hb1
  have HE1 : Hid (Below w.heap.size w w1) := Lib.hid (gbelow hg1)
  have H1 : Hid (DkM w1 bd O d) := Lib.hid (H.out.below (gbelow hg1))
  clear hb1 hg1 hs1 H
  have LX : Hid (∀ w', Below w1.drew.heap.size w1.drew w' → (Instr.loadAt 31 (.pointer (some ⟨w.heap.size, 0, none⟩))).run Tryz.prog w' = .ok (.agg (#[.int .i64 0, .int .i64 40] : Array Value)) w') := Lib.hid fun w' hb => run_loadAtM sExt w' w.heap.size 0 [.int .i64 0, .int .i64 40] ((HB1.out.keep (hb.block _ HB1.out.lt)).range 0 _ ⟨[], [], by simp, rfl⟩) rfl
  have DSZ : Hid (∀ w', Below w1.drew.heap.size w1.drew w' → Calls Tryz.prog 25 #[.pointer (some ⟨bd, 0, none⟩)] w' fun e w'' => ∃ v, e = .returned v ∧ (VD.is (.int .i64 40)).ok v w'' ∧ Below w'.heap.size w' w'') := Lib.hid fun w' hb => (dsize_calls w' bd O d (H1.out.below ⟨hb.os, hb.tape, hb.output, hb.size, hb.block⟩)).mono fun e w'' hh => ⟨_, hh.1, rfl, by rw [hh.2]; exact Below.refl _ _⟩
  have LIE : Hid (∀ w', Below w1.drew.heap.size w1.drew w' → Calls Tryz.prog 24 #[.agg #[.int .i64 0, .int .i64 40], .int .i64 40] w' fun e w'' => ∃ v, e = .returned v ∧ (VD.is (.bool true)).ok v w'' ∧ Below w'.heap.size w' w'') := Lib.hid fun w' hb => (lies_calls w' 0 40 40 (by decide) (by decide) (by decide)).mono fun e w'' hh => ⟨_, hh.1, rfl, hh.2⟩
  go_wp2_with fail
  refine region_monos (fun ix9 => ([.is (.agg (#[.int .i64 0, .int .i64 40] : Array Value)), .is (.pointer (some ⟨bd, 0, none⟩)), .is (.int .i64 40), .is (.bool true), .is (.bool false)] : List VD).getD ix9 (.is undef)) [some 6, some 7, some 8, some 9, some 10] (by kernel_rfl) (by kernel_rfl) (by kernel_rfl) rfl (fun ii hii => ?_) ?_
  · match ii, hii with
    | 0, _ => exact mstep_loadI rfl (mwant_none rfl) 3 _ rfl (by kernel_rfl) _ _ rfl rfl (fun w hb => LX.out w hb)
    | 1, _ => exact mstep_first rfl (mwant_none rfl) 0 (Or.inl rfl) (by kernel_rfl) (fun _ _ => rfl)
    | 2, _ => exact mstep_call rfl (mwant_none rfl) _ _ _ rfl (enters_of Tryz.func25 (by kernel_rfl) rfl) (fun aa ww cc => by have e0 : aa.tmps.getD 7 undef = .pointer (some ⟨bd, 0, none⟩) := cc.slot 1 7 (by kernel_rfl) rfl; simp only [List.map_toArray, List.map_cons, List.map_nil, Act.eval, e0]; exact (DSZ.out) ww cc.below)
    | 3, _ => exact mstep_call rfl (mwant_none rfl) _ _ _ rfl (enters_of Tryz.func24 (by kernel_rfl) rfl) (fun aa ww cc => by have e0 : aa.tmps.getD 6 undef = .agg (#[.int .i64 0, .int .i64 40] : Array Value) := cc.slot 0 6 (by kernel_rfl) rfl; have e1 : aa.tmps.getD 8 undef = .int .i64 40 := cc.slot 2 8 (by kernel_rfl) rfl; simp only [List.map_toArray, List.map_cons, List.map_nil, Act.eval, e0, e1]; exact (LIE.out) ww cc.below)
    | 4, _ => exact mstep_pure rfl (mwant_none rfl) (fun aa ww cc => ⟨.bool false, by have e0 : aa.tmps.getD 9 undef = .bool true := cc.slot 3 9 (by kernel_rfl) rfl; simp only [execOp, Act.eval]; go_simp, rfl⟩)
    | n + 5, h => exact absurd h (by show ¬ (n + 5 < 5); omega)
  · intro VV w5 hlen hb5 hok
    match VV, hlen with
    | [v0, v1, v2, v3, v4], _ =>
      obtain rfl : v0 = .agg (#[.int .i64 0, .int .i64 40] : Array Value) := hok 0 6 rfl
      obtain rfl : v1 = .pointer (some ⟨bd, 0, none⟩) := hok 1 7 rfl
      obtain rfl : v2 = .int .i64 40 := hok 2 8 rfl
      obtain rfl : v3 = .bool true := hok 3 9 rfl
      obtain rfl : v4 = .bool false := hok 4 10 rfl
      have HE5 : Hid (Below w.heap.size w w5) := Lib.hid (HE1.out.trans (Below.mono ⟨hb5.os, hb5.tape, hb5.output, hb5.size, hb5.block⟩ HE1.out.size))
      have HB5 : Hid (Blk w5 w.heap.size [.int .i64 0, .int .i64 40]) := Lib.hid (HB1.out.keep (hb5.block _ HB1.out.lt))
      clear hb5 hok LX DSZ LIE H1
      simp only [List.zip_cons_cons, List.zip_nil_right, putsL]
      go_simp
      go_wp2_with first | ((with_reducible show wpList _ _ _ (Oper.mk _ (Op.load 31 _) _ _ _ _ :: _) _ _); refine wpList_loadS sExt rfl _ rfl w.heap.size [.int .i64 0, .int .i64 40] rfl HB5.out rfl ?_) | ((with_reducible show wpList _ _ _ (Oper.mk _ (Op.box 80 _) _ _ _ _ :: _) _ _); refine wpList_boxS rfl _ rfl [.int .i64 0, .int .i64 40, .pointer (some ⟨bd, 0, none⟩)] (by rfl) ?_)
      intro w6 hb6 hg6 hs6
      have HR : Hid (PartM w6 w5.heap.size bd 0 40 ∧ w.heap.size ≤ w5.heap.size ∧ Below w.heap.size w w6) := Lib.hid ⟨hb6, HE5.out.size, HE5.out.trans ((gbelow hg6).mono HE5.out.size)⟩
      clear hb6 hg6 hs6 HB5
      go_wp2_with fail
      go_ret2
      exact ⟨_, rfl, HR.out⟩
set_option maxRecDepth 100000 in
set_option maxHeartbeats 2000000 in
theorem epart_calls (w : World) (bp bd fr cn f c : Nat) (h : PartM w bp bd fr cn) (h1 : 1 ≤ c) (h2 : f + c ≤ cn) (h3 : cn ≤ 1000) (h4 : fr ≤ 1000) : Calls Tryz.prog 27 #[.pointer (some ⟨bp, 0, none⟩), .agg #[.int .i64 (f : Int), .int .i64 (c : Int)]] w (RetNewP w bd (fr + f) c) := by
  have H := Lib.hid h
  have HC := Lib.hid (And.intro h1 (And.intro h2 (And.intro h3 h4)))
  clear h h1 h2 h3 h4
  go_enter Tryz.func27, Tryz.ntmps27
  go_wp2_with ((with_reducible show wpList _ _ _ (Oper.mk _ (Op.box 31 _) _ _ _ _ :: _) _ _); refine wpList_boxS rfl _ rfl [.int .i64 (f : Int), .int .i64 (c : Int)] (by rfl) ?_)
  intro w1 hb1 hg1 hs1
  have HB1 := Lib.hid hb1
  have HE1 : Hid (Below w.heap.size w w1) := Lib.hid (gbelow hg1)
  have H1 : Hid (PartM w1 bp bd fr cn) := Lib.hid (H.out.grown hg1 (by simp))
  clear hb1 hg1 hs1 H
  have LX : Hid (∀ w', Below w1.drew.heap.size w1.drew w' → (Instr.loadAt 31 (.pointer (some ⟨w.heap.size, 0, none⟩))).run Tryz.prog w' = .ok (.agg (#[.int .i64 (f : Int), .int .i64 (c : Int)] : Array Value)) w') := Lib.hid fun w' hb => run_loadAtM sExt w' w.heap.size 0 [.int .i64 (f : Int), .int .i64 (c : Int)] ((HB1.out.keep (hb.block _ HB1.out.lt)).range 0 _ ⟨[], [], by simp, rfl⟩) rfl
  have CN : Hid (∀ w', Below w1.drew.heap.size w1.drew w' → w'.cell? ⟨bp, 1, none⟩ = some (.int .i64 (cn : Int))) := Lib.hid fun w' hb => (Blk.keep H1.out (hb.block bp (Blk.lt H1.out))).cell rfl
  have LIE : Hid (∀ w', Below w1.drew.heap.size w1.drew w' → Calls Tryz.prog 24 #[.agg #[.int .i64 (f : Int), .int .i64 (c : Int)], .int .i64 (cn : Int)] w' fun e w'' => ∃ v, e = .returned v ∧ (VD.is (.bool true)).ok v w'' ∧ Below w'.heap.size w' w'') := Lib.hid fun w' hb => (lies_calls w' f c cn HC.out.1 HC.out.2.1 HC.out.2.2.1).mono fun e w'' hh => ⟨_, hh.1, rfl, hh.2⟩
  go_wp2_with fail
  refine region_monos (fun ix9 => ([.is (.agg (#[.int .i64 (f : Int), .int .i64 (c : Int)] : Array Value)), .is (.pointer (some ⟨bp, 0, none⟩)), .is (.pointer (some ⟨bp, 0, none⟩)), .is (.pointer (some ⟨bp, 0, none⟩)), .is (.pointer (some ⟨bp, 1, none⟩)), .is (.int .i64 (cn : Int)), .is (.bool true), .is (.bool false)] : List VD).getD ix9 (.is undef)) [some 6, some 7, some 8, some 9, some 10, some 11, some 12, some 13] (by kernel_rfl) (by kernel_rfl) (by kernel_rfl) rfl (fun ii hii => ?_) ?_
  · match ii, hii with
    | 0, _ => exact mstep_loadI rfl (mwant_none rfl) 3 _ rfl (by kernel_rfl) _ _ rfl rfl (fun w hb => LX.out w hb)
    | 1, _ => exact mstep_first rfl (mwant_none rfl) 0 (Or.inl rfl) (by kernel_rfl) (fun _ _ => rfl)
    | 2, _ => exact mstep_pure rfl (mwant_none rfl) (fun aa ww cc => ⟨.pointer (some ⟨bp, 0, none⟩), by have e0 : aa.tmps.getD 7 undef = .pointer (some ⟨bp, 0, none⟩) := cc.slot 1 7 (by kernel_rfl) rfl; simp only [execOp, Act.eval]; go_simp, rfl⟩)
    | 3, _ => exact mstep_pure rfl (mwant_none rfl) (fun aa ww cc => ⟨.pointer (some ⟨bp, 0, none⟩), by have e0 : aa.tmps.getD 8 undef = .pointer (some ⟨bp, 0, none⟩) := cc.slot 2 8 (by kernel_rfl) rfl; simp only [execOp, Act.eval]; go_simp, rfl⟩)
    | 4, _ => exact mstep_pure rfl (mwant_none rfl) (fun aa ww cc => ⟨.pointer (some ⟨bp, 1, none⟩), by have e0 : aa.tmps.getD 9 undef = .pointer (some ⟨bp, 0, none⟩) := cc.slot 3 9 (by kernel_rfl) rfl; simp only [execOp, Act.eval]; go_simp, rfl⟩)
    | 5, _ => exact mstep_pure rfl (mwant_none rfl) (fun aa ww cc => ⟨.int .i64 (cn : Int), by have e0 : aa.tmps.getD 10 undef = .pointer (some ⟨bp, 1, none⟩) := cc.slot 4 10 (by kernel_rfl) rfl; have q := CN.out _ cc.below; simp only [execOp, Act.eval]; go_simp, rfl⟩)
    | 6, _ => exact mstep_call rfl (mwant_none rfl) _ _ _ rfl (enters_of Tryz.func24 (by kernel_rfl) rfl) (fun aa ww cc => by have e0 : aa.tmps.getD 6 undef = .agg (#[.int .i64 (f : Int), .int .i64 (c : Int)] : Array Value) := cc.slot 0 6 (by kernel_rfl) rfl; have e1 : aa.tmps.getD 11 undef = .int .i64 (cn : Int) := cc.slot 5 11 (by kernel_rfl) rfl; simp only [List.map_toArray, List.map_cons, List.map_nil, Act.eval, e0, e1]; exact (LIE.out) ww cc.below)
    | 7, _ => exact mstep_pure rfl (mwant_none rfl) (fun aa ww cc => ⟨.bool false, by have e0 : aa.tmps.getD 12 undef = .bool true := cc.slot 6 12 (by kernel_rfl) rfl; simp only [execOp, Act.eval]; go_simp, rfl⟩)
    | n + 8, h => exact absurd h (by show ¬ (n + 8 < 8); omega)
  · intro VV w5 hlen hb5 hok
    match VV, hlen with
    | [v0, v1, v2, v3, v4, v5, v6, v7], _ =>
      obtain rfl : v0 = .agg (#[.int .i64 (f : Int), .int .i64 (c : Int)] : Array Value) := hok 0 6 rfl
      obtain rfl : v1 = .pointer (some ⟨bp, 0, none⟩) := hok 1 7 rfl
      obtain rfl : v2 = .pointer (some ⟨bp, 0, none⟩) := hok 2 8 rfl
      obtain rfl : v3 = .pointer (some ⟨bp, 0, none⟩) := hok 3 9 rfl
      obtain rfl : v4 = .pointer (some ⟨bp, 1, none⟩) := hok 4 10 rfl
      obtain rfl : v5 = .int .i64 (cn : Int) := hok 5 11 rfl
      obtain rfl : v6 = .bool true := hok 6 12 rfl
      obtain rfl : v7 = .bool false := hok 7 13 rfl
      obtain ⟨B3, hB3⟩ : ∃ B, B = w.heap.size := ⟨_, rfl⟩
      have HE5 : Hid (Below w.heap.size w w5) := Lib.hid (HE1.out.trans (Below.mono ⟨hb5.os, hb5.tape, hb5.output, hb5.size, hb5.block⟩ HE1.out.size))
      have HB5 : Hid (Blk w5 B3 [.int .i64 (f : Int), .int .i64 (c : Int)]) := Lib.hid (by rw [hB3]; exact HB1.out.keep (hb5.block _ HB1.out.lt))
      have H5 : Hid (PartM w5 bp bd fr cn) := Lib.hid (Blk.keep H1.out (hb5.block bp (Blk.lt H1.out)))
      have QS : Hid (IntKind.i64.wrap ((fr : Int) + (f : Int)) = (fr : Int) + (f : Int)) := Lib.hid (by rw [Go.IntWalk.i64_left]; have := HC.out; unfold wrap64; omega)
      have MC : Hid (∀ w', Below w5.drew.heap.size w5.drew w' → w'.cell? ⟨bp, 0, none⟩ = some (.int .i64 (fr : Int)) ∧ w'.cell? ⟨B3, 0, none⟩ = some (.int .i64 (f : Int)) ∧ w'.cell? ⟨B3, 1, none⟩ = some (.int .i64 (c : Int)) ∧ w'.cell? ⟨bp, 2, none⟩ = some (.pointer (some ⟨bd, 0, none⟩))) := Lib.hid fun w' hb => by
        have h1 := HB5.out.keep (hb.block _ HB5.out.lt)
        have h2 := Blk.keep H5.out (hb.block bp (Blk.lt H5.out))
        exact ⟨h2.cell rfl, h1.cell rfl, h1.cell rfl, h2.cell rfl⟩
      rw [← hB3]
      clear hb5 hok LX CN LIE H1 HB1 hB3
      simp only [List.zip_cons_cons, List.zip_nil_right, putsL]
      go_simp
      go_wp2_with fail
      refine region_tails 16 (fun ix9 => ([.is (.pointer (some ⟨bp, 0, none⟩)), .is (.pointer (some ⟨bp, 0, none⟩)), .is (.pointer (some ⟨bp, 0, none⟩)), .is (.pointer (some ⟨bp, 0, none⟩)), .is (.int .i64 (fr : Int)), .is (.pointer (some ⟨B3, 0, none⟩)), .is (.int .i64 (f : Int)), .is (.int .i64 ((fr : Int) + (f : Int))), .is (.pointer (some ⟨B3, 1, none⟩)), .is (.int .i64 (c : Int)), .is (.agg #[.int .i64 ((fr : Int) + (f : Int)), .int .i64 (c : Int)]), .is (.pointer (some ⟨bp, 0, none⟩)), .is (.pointer (some ⟨bp, 0, none⟩)), .is (.pointer (some ⟨bp, 2, none⟩)), .is (.pointer (some ⟨bd, 0, none⟩)), .is (.agg #[.int .i64 ((fr : Int) + (f : Int)), .int .i64 (c : Int), .pointer (some ⟨bd, 0, none⟩)])] : List VD).getD ix9 (.is undef)) [some 14, some 15, some 16, some 17, some 18, some 19, some 20, some 21, some 22, some 23, some 24, some 25, some 26, some 27, some 28, some 29] (by kernel_rfl) (by kernel_rfl) (by kernel_rfl) (by kernel_rfl) rfl (fun ii hii => ?_) ?_
      · match ii, hii with
        | 0, _ => exact mstep_first rfl (mwant_none rfl) 0 (Or.inl rfl) (by kernel_rfl) (fun _ _ => rfl)
        | 1, _ => exact mstep_pure rfl (mwant_none rfl) (fun aa ww cc => ⟨.pointer (some ⟨bp, 0, none⟩), by have e0 : aa.tmps.getD 14 undef = .pointer (some ⟨bp, 0, none⟩) := cc.slot 0 14 (by kernel_rfl) rfl; simp only [execOp, Act.eval]; go_simp, rfl⟩)
        | 2, _ => exact mstep_pure rfl (mwant_none rfl) (fun aa ww cc => ⟨.pointer (some ⟨bp, 0, none⟩), by have e0 : aa.tmps.getD 15 undef = .pointer (some ⟨bp, 0, none⟩) := cc.slot 1 15 (by kernel_rfl) rfl; simp only [execOp, Act.eval]; go_simp, rfl⟩)
        | 3, _ => exact mstep_pure rfl (mwant_none rfl) (fun aa ww cc => ⟨.pointer (some ⟨bp, 0, none⟩), by have e0 : aa.tmps.getD 16 undef = .pointer (some ⟨bp, 0, none⟩) := cc.slot 2 16 (by kernel_rfl) rfl; simp only [execOp, Act.eval]; go_simp, rfl⟩)
        | 4, _ => exact mstep_pure rfl (mwant_none rfl) (fun aa ww cc => ⟨.int .i64 (fr : Int), by have e0 : aa.tmps.getD 17 undef = .pointer (some ⟨bp, 0, none⟩) := cc.slot 3 17 (by kernel_rfl) rfl; obtain ⟨m0, m1, m2, m3⟩ := MC.out _ cc.below; simp only [execOp, Act.eval]; go_simp, rfl⟩)
        | 5, _ => exact mstep_pure rfl (mwant_none rfl) (fun aa ww cc => ⟨.pointer (some ⟨B3, 0, none⟩), by have e0 : aa.tmps.getD 3 undef = .pointer (some ⟨B3, 0, none⟩) := (cc.orig 3 (by kernel_rfl)).trans rfl; simp only [execOp, Act.eval]; go_simp, rfl⟩)
        | 6, _ => exact mstep_pure rfl (mwant_none rfl) (fun aa ww cc => ⟨.int .i64 (f : Int), by have e0 : aa.tmps.getD 19 undef = .pointer (some ⟨B3, 0, none⟩) := cc.slot 5 19 (by kernel_rfl) rfl; obtain ⟨m0, m1, m2, m3⟩ := MC.out _ cc.below; simp only [execOp, Act.eval]; go_simp, rfl⟩)
        | 7, _ => exact mstep_pure rfl (mwant_none rfl) (fun aa ww cc => ⟨.int .i64 ((fr : Int) + (f : Int)), by have e0 : aa.tmps.getD 18 undef = .int .i64 (fr : Int) := cc.slot 4 18 (by kernel_rfl) rfl; have e1 : aa.tmps.getD 20 undef = .int .i64 (f : Int) := cc.slot 6 20 (by kernel_rfl) rfl; have q := QS.out; simp only [execOp, Act.eval]; go_simp, rfl⟩)
        | 8, _ => exact mstep_pure rfl (mwant_none rfl) (fun aa ww cc => ⟨.pointer (some ⟨B3, 1, none⟩), by have e0 : aa.tmps.getD 3 undef = .pointer (some ⟨B3, 0, none⟩) := (cc.orig 3 (by kernel_rfl)).trans rfl; simp only [execOp, Act.eval]; go_simp, rfl⟩)
        | 9, _ => exact mstep_pure rfl (mwant_none rfl) (fun aa ww cc => ⟨.int .i64 (c : Int), by have e0 : aa.tmps.getD 22 undef = .pointer (some ⟨B3, 1, none⟩) := cc.slot 8 22 (by kernel_rfl) rfl; obtain ⟨m0, m1, m2, m3⟩ := MC.out _ cc.below; simp only [execOp, Act.eval]; go_simp, rfl⟩)
        | 10, _ => exact mstep_build2 rfl (mwant_none rfl) _ 21 23 0 1 rfl 7 9 (by kernel_rfl) (by kernel_rfl) rfl rfl _ _ rfl rfl _ (fun w => run_build w _ _ _ (by kernel_rfl)) rfl
        | 11, _ => exact mstep_first rfl (mwant_none rfl) 0 (Or.inl rfl) (by kernel_rfl) (fun _ _ => rfl)
        | 12, _ => exact mstep_pure rfl (mwant_none rfl) (fun aa ww cc => ⟨.pointer (some ⟨bp, 0, none⟩), by have e0 : aa.tmps.getD 25 undef = .pointer (some ⟨bp, 0, none⟩) := cc.slot 11 25 (by kernel_rfl) rfl; simp only [execOp, Act.eval]; go_simp, rfl⟩)
        | 13, _ => exact mstep_pure rfl (mwant_none rfl) (fun aa ww cc => ⟨.pointer (some ⟨bp, 2, none⟩), by have e0 : aa.tmps.getD 26 undef = .pointer (some ⟨bp, 0, none⟩) := cc.slot 12 26 (by kernel_rfl) rfl; simp only [execOp, Act.eval]; go_simp, rfl⟩)
        | 14, _ => exact mstep_pure rfl (mwant_none rfl) (fun aa ww cc => ⟨.pointer (some ⟨bd, 0, none⟩), by have e0 : aa.tmps.getD 27 undef = .pointer (some ⟨bp, 2, none⟩) := cc.slot 13 27 (by kernel_rfl) rfl; obtain ⟨m0, m1, m2, m3⟩ := MC.out _ cc.below; simp only [execOp, Act.eval]; go_simp, rfl⟩)
        | 15, _ => exact mstep_build2 rfl (mwant_none rfl) _ 24 28 0 1 rfl 10 14 (by kernel_rfl) (by kernel_rfl) rfl rfl _ _ rfl rfl _ (fun w => run_build w _ _ _ (by kernel_rfl)) rfl
        | n + 16, h => exact absurd h (by show ¬ (n + 16 < 16); omega)
      · intro VV w5 hlen hb5 hok
        match VV, hlen with
        | [v0, v1, v2, v3, v4, v5, v6, v7, v8, v9, v10, v11, v12, v13, v14, v15], _ =>
          obtain rfl : v0 = .pointer (some ⟨bp, 0, none⟩) := hok 0 14 rfl
          obtain rfl : v1 = .pointer (some ⟨bp, 0, none⟩) := hok 1 15 rfl
          obtain rfl : v2 = .pointer (some ⟨bp, 0, none⟩) := hok 2 16 rfl
          obtain rfl : v3 = .pointer (some ⟨bp, 0, none⟩) := hok 3 17 rfl
          obtain rfl : v4 = .int .i64 (fr : Int) := hok 4 18 rfl
          obtain rfl : v5 = .pointer (some ⟨B3, 0, none⟩) := hok 5 19 rfl
          obtain rfl : v6 = .int .i64 (f : Int) := hok 6 20 rfl
          obtain rfl : v7 = .int .i64 ((fr : Int) + (f : Int)) := hok 7 21 rfl
          obtain rfl : v8 = .pointer (some ⟨B3, 1, none⟩) := hok 8 22 rfl
          obtain rfl : v9 = .int .i64 (c : Int) := hok 9 23 rfl
          obtain rfl : v10 = .agg #[.int .i64 ((fr : Int) + (f : Int)), .int .i64 (c : Int)] := hok 10 24 rfl
          obtain rfl : v11 = .pointer (some ⟨bp, 0, none⟩) := hok 11 25 rfl
          obtain rfl : v12 = .pointer (some ⟨bp, 0, none⟩) := hok 12 26 rfl
          obtain rfl : v13 = .pointer (some ⟨bp, 2, none⟩) := hok 13 27 rfl
          obtain rfl : v14 = .pointer (some ⟨bd, 0, none⟩) := hok 14 28 rfl
          obtain rfl : v15 = .agg #[.int .i64 ((fr : Int) + (f : Int)), .int .i64 (c : Int), .pointer (some ⟨bd, 0, none⟩)] := hok 15 29 rfl
          have HE6 : Hid (Below w.heap.size w w5) := Lib.hid (HE5.out.trans (Below.mono ⟨hb5.os, hb5.tape, hb5.output, hb5.size, hb5.block⟩ HE5.out.size))
          clear hb5 hok MC HB5 H5 QS HE5
          simp only [List.zip_cons_cons, List.zip_nil_right, putsL]
          go_simp
          go_wp2_with ((with_reducible show wpList _ _ _ (Oper.mk _ (Op.box 80 _) _ _ _ _ :: _) _ _); refine wpList_boxS rfl _ rfl [.int .i64 ((fr : Int) + (f : Int)), .int .i64 (c : Int), .pointer (some ⟨bd, 0, none⟩)] (by rfl) ?_)
          intro w7 hb7 hg7 hs7
          have HR : Hid (PartM w7 w5.heap.size bd (fr + f) c ∧ w.heap.size ≤ w5.heap.size ∧ Below w.heap.size w w7) := Lib.hid ⟨by unfold PartM; rw [show ((fr + f : Nat) : Int) = (fr : Int) + (f : Int) by omega]; exact hb7, HE6.out.size, HE6.out.trans ((gbelow hg7).mono HE6.out.size)⟩
          clear hb7 hg7 hs7
          go_wp2_with fail
          go_ret2
          exact ⟨_, rfl, HR.out⟩
def RetPlc (w : World) (p : Int) (e : Ending) (w' : World) : Prop := e = .returned (.tuple #[.int .i64 p, .int .i64 0]) ∧ Below w.heap.size w w'
set_option maxRecDepth 100000 in
set_option maxHeartbeats 2000000 in
theorem place_calls (w : World) (fr cn p : Nat) (h1 : p < cn) (h2 : cn ≤ 1000) (h3 : fr ≤ 1000) : Calls Tryz.prog 74 #[.agg #[.int .i64 (fr : Int), .int .i64 (cn : Int)], .int .i64 (p : Int)] w (RetPlc w ((fr : Int) + (p : Int))) := by
  have q1 : (p : Int) < (cn : Int) := by omega
  have q2 : (0 : Int) ≤ (p : Int) := by omega
  have q3 : (cn : Int) ≤ 1000 := by omega
  have q4 : (fr : Int) ≤ 1000 := by omega
  have q5 : (0 : Int) ≤ (fr : Int) := by omega
  clear h1 h2 h3
  go_enter Tryz.func74, Tryz.ntmps74
  go_wp2_with ((with_reducible show wpList _ _ _ (Oper.mk _ (Op.box 31 _) _ _ _ _ :: _) _ _); refine wpList_boxS rfl _ rfl [.int .i64 (fr : Int), .int .i64 (cn : Int)] (by rfl) ?_)
  intro w1 hb1 hg1 hs1
  have HG1 := Lib.hid hg1
  have c0 := hb1.cell (j := 0) rfl
  have c1 := hb1.cell (j := 1) rfl
  clear hb1 hg1 hs1
  go_wp2_with fail
  go_ret2
  exact ⟨rfl, gbelow HG1.out⟩
set_option maxRecDepth 100000 in
theorem esize_calls (w : World) (bp bd fr cn : Nat) (h : PartM w bp bd fr cn) : Calls Tryz.prog 26 #[.pointer (some ⟨bp, 0, none⟩)] w (fun e w' => e = .returned (.int .i64 (cn : Int)) ∧ w' = w) := by
  have c1 := Blk.cell h (j := 1) rfl
  clear h
  go_enter Tryz.func26, Tryz.ntmps26
  go_wp2_with fail
  go_ret
  exact ⟨rfl, rfl⟩
set_option maxRecDepth 100000 in
set_option maxHeartbeats 2000000 in
theorem eread_calls (w : World) (bp bd fr cn p : Nat) (O : Nat → Prop) (d : Dk) (h : PartM w bp bd fr cn) (hd : DkM w bd O d) (h1 : p < cn) (h2 : fr + cn ≤ 40) (hoff : d.off = false) (hpd : d.pend = []) :
    Calls Tryz.prog 51 #[.pointer (some ⟨bp, 0, none⟩), .int .i64 (p : Int)] w (RetDr w (d.secs.getD (fr + p) [])) := by
  have H := Lib.hid h
  have c2 := Blk.cell h (j := 2) rfl
  have HPL := Lib.hid (place_calls w fr cn p h1 (by omega) (by omega))
  have HD := Lib.hid (And.intro hd (And.intro hoff hpd))
  have HN := Lib.hid (And.intro h1 h2)
  clear h hd h1 h2 hoff hpd
  go_enter Tryz.func51, Tryz.ntmps51
  go_wp2_with ((with_reducible show wpList _ _ _ (Oper.mk _ (Op.load 31 _) _ _ _ _ :: _) _ _); refine wpList_loadM sExt rfl _ rfl bp 0 [.int .i64 (fr : Int), .int .i64 (cn : Int)] rfl (Blk.range H.out 0 _ ⟨[], _, rfl, rfl⟩) rfl ?_)
  go_at_call 74
  with_reducible refine HPL.out.mono ?_
  rintro e w1 ⟨rfl, hb1⟩
  have c2 : w1.cell? ⟨bp, 2, none⟩ = some (.pointer (some ⟨bd, 0, none⟩)) := (Blk.below H.out hb1 (Blk.lt H.out)).cell rfl
  have HRD : Hid (Calls Tryz.prog 75 #[.pointer (some ⟨bd, 0, none⟩), .int .i64 ((fr : Int) + (p : Int))] w1 (RetDr w1 (d.secs.getD (fr + p) []))) := Lib.hid (by
    have := dread_calls w1 bd O d (fr + p) (HD.out.1.below hb1) (by have := HN.out; omega) HD.out.2.1 HD.out.2.2
    rw [show ((fr + p : Nat) : Int) = (fr : Int) + (p : Int) by omega] at this
    exact this)
  have HB1 := Lib.hid hb1
  clear hb1 HPL
  go_wp2_with fail
  go_at_call 75
  with_reducible refine HRD.out.mono ?_
  rintro e w2 ⟨b, rfl, h1, h2, h3, h4⟩
  have HR : Hid (w.heap.size ≤ b ∧ Blk w2 b ((d.secs.getD (fr + p) []).map bv) ∧ (d.secs.getD (fr + p) []).length = 64 ∧ Below w.heap.size w w2) := Lib.hid ⟨Nat.le_trans HB1.out.size h1, h2, h3, HB1.out.trans (h4.mono HB1.out.size)⟩
  clear h1 h2 h3 h4 HRD c2
  go_wp2_with fail
  go_ret2
  exact ⟨_, rfl, HR.out⟩
set_option maxRecDepth 100000 in
set_option maxHeartbeats 2000000 in
theorem ewrite_calls (w : World) (bp bd fr cn p : Nat) (O : Nat → Prop) (d : Dk) (A : Option Addr) (c : Nat) (x : List UInt8) (h : PartM w bp bd fr cn) (hd : DkM w bd O d) (h1 : p < cn) (h2 : fr + cn ≤ 40) (hx : x.length = 64) (hA : RBn w O A x) (hn : d.pend.length ≤ 900) (hcs : d.surv.length ≤ 9223372036854775807) :
    Calls Tryz.prog 65 #[.pointer (some ⟨bp, 0, none⟩), .int .i64 (p : Int), .slice A 64 c] w (RetDN w bd O (d.write (fr + p) x).1 (.int .i64 ((d.write (fr + p) x).2 : Int))) := by
  have H := Lib.hid h
  have HPL := Lib.hid (place_calls w fr cn p h1 (by omega) (by omega))
  have HD := Lib.hid (And.intro hd (And.intro hx (And.intro hA (And.intro hn hcs))))
  have HN := Lib.hid (And.intro h1 h2)
  clear h hd h1 h2 hx hA hn hcs
  go_enter Tryz.func65, Tryz.ntmps65
  go_wp2_with ((with_reducible show wpList _ _ _ (Oper.mk _ (Op.load 31 _) _ _ _ _ :: _) _ _); refine wpList_loadM sExt rfl _ rfl bp 0 [.int .i64 (fr : Int), .int .i64 (cn : Int)] rfl (Blk.range H.out 0 _ ⟨[], _, rfl, rfl⟩) rfl ?_)
  go_at_call 74
  with_reducible refine HPL.out.mono ?_
  rintro e w1 ⟨rfl, hb1⟩
  have c2 : w1.cell? ⟨bp, 2, none⟩ = some (.pointer (some ⟨bd, 0, none⟩)) := (Blk.below H.out hb1 (Blk.lt H.out)).cell rfl
  have HRD : Hid (Calls Tryz.prog 88 #[.pointer (some ⟨bd, 0, none⟩), .int .i64 ((fr : Int) + (p : Int)), .slice A 64 c] w1 (RetDN w1 bd O (d.write (fr + p) x).1 (.int .i64 ((d.write (fr + p) x).2 : Int)))) := Lib.hid (by
    have := dwrite_calls w1 bd O d (fr + p) A c x (HD.out.1.below hb1) (by have := HN.out; omega) HD.out.2.1 (HD.out.2.2.1.upd (Upd.below hb1)) HD.out.2.2.2.1 HD.out.2.2.2.2
    rw [show ((fr + p : Nat) : Int) = (fr : Int) + (p : Int) by omega] at this
    exact this)
  have HB1 := Lib.hid hb1
  clear hb1 HPL
  go_wp2_with fail
  go_at_call 88
  with_reducible refine HRD.out.mono ?_
  rintro e w2 ⟨rfl, O', h1, h2⟩
  have HR : Hid (DkM w2 bd O' (d.write (fr + p) x).1 ∧ Upd O w w2 O') := Lib.hid ⟨h1, (Upd.below HB1.out).trans h2⟩
  clear h1 h2 HRD c2
  go_wp2_with fail
  go_ret
  exact ⟨rfl, O', HR.out⟩
set_option maxRecDepth 100000 in
set_option maxHeartbeats 2000000 in
theorem eflush_calls (w : World) (bp bd fr cn : Nat) (O : Nat → Prop) (d : Dk) (h : PartM w bp bd fr cn) (hd : DkM w bd O d) (hn : d.pend.length ≤ 1000) (hcs : d.surv.length ≤ 9223372036854775807) :
    Calls Tryz.prog 66 #[.pointer (some ⟨bp, 0, none⟩)] w (RetD w bd O d.flush.1 (.int .i64 (d.flush.2 : Int))) := by
  have c2 := Blk.cell h (j := 2) rfl
  have HF := Lib.hid (flush_calls w bd O d hd hn hcs)
  clear h hd hn hcs
  go_enter Tryz.func66, Tryz.ntmps66
  go_wp2_with fail
  go_at_call 89
  with_reducible refine HF.out.mono ?_
  rintro e w2 ⟨rfl, h1⟩
  have HR := Lib.hid h1
  clear h1 HF c2
  go_wp2_with fail
  go_ret
  exact ⟨rfl, HR.out⟩
end Go.Proofs.YtjfpoahmjgeogaaGreatDoor
/- image: valid, Of, Begin. -/
namespace Nac.Img
def mcells (m : Man) : List Go.Value := .int .i64 m.part :: .int .u32 (m.ver : Int) :: .int .i64 m.size :: m.sum.map bv
def zMan : Man := ⟨0, 0, 0, List.replicate 32 0⟩
theorem mcells_len (m : Man) (h : m.sum.length = 32) : (mcells m).length = 35 := by simp [mcells, h]
theorem mcells_one (m : Man) : ∀ v ∈ mcells m, v.oneCell' = true := fun v hv => by
  simp only [mcells, List.mem_cons] at hv
  rcases hv with rfl | rfl | rfl | hv
  · rfl
  · rfl
  · rfl
  · exact bv_one _ v hv
def scells (m : Man) (A : Option Go.Addr) (n c : Nat) : List Go.Value := mcells m ++ [.slice A n c]
theorem scells_len (m : Man) (h : m.sum.length = 32) (A : Option Go.Addr) (n c : Nat) : (scells m A n c).length = 36 := by simp [scells, mcells_len m h]
theorem scells_one (m : Man) (A : Option Go.Addr) (n c : Nat) : ∀ v ∈ scells m A n c, v.oneCell' = true := fun v hv => by
  rcases List.mem_append.1 hv with hv | hv
  · exact mcells_one m v hv
  · rw [List.mem_singleton] at hv; rw [hv]; rfl
end Nac.Img
namespace Go.Proofs.YtjfpoahmjgeogaaGreatDoor
open Go.RowKit Nac Nac.Img Nac.Sha
theorem sMan : SInfo 47 35 := ⟨by kernel_rfl, _, Tryz.underlying47, rfl⟩
theorem zeroMan : ((Tryz.prog.info? 47).bind (·.zero)) = some (.agg (mcells zMan).toArray) := by kernel_rfl
theorem build_man (w : World) (p v s : Int) (u : List UInt8) (h : u.length = 32) : (Instr.build 47 #[(0, .int .i64 p), (1, .int .u32 v), (2, .int .i64 s), (3, .agg (u.map bv).toArray)]).run Tryz.prog w = .ok (.agg (.int .i64 p :: .int .u32 v :: .int .i64 s :: u.map bv : List Value).toArray) w := by
  match u, h with
  | [x0, x1, x2, x3, x4, x5, x6, x7, x8, x9, x10, x11, x12, x13, x14, x15, x16, x17, x18, x19, x20, x21, x22, x23, x24, x25, x26, x27, x28, x29, x30, x31], _ => exact run_build w _ _ _ (by kernel_rfl)
theorem build_man0 (w : World) : (Instr.build 47 #[]).run Tryz.prog w = .ok (.agg (mcells zMan).toArray) w := run_build w _ _ _ (by kernel_rfl)
set_option maxRecDepth 100000 in
set_option maxHeartbeats 4000000 in
theorem valid_calls (w : World) (m : Man) : Calls Tryz.prog 60 #[.agg (mcells m).toArray] w (fun e w' => e = .returned (.bool m.okB) ∧ Below w.heap.size w w') := by
  obtain ⟨p, v, s, u⟩ := m
  have HOK : Hid ((⟨p, v, s, u⟩ : Man).okB = decide (0 ≤ p ∧ p < 8 ∧ 4 ≤ s ∧ s ≤ 512 ∧ s % 4 = 0)) := Lib.hid rfl
  obtain ⟨cs, hcs⟩ : ∃ cs, cs = mcells ⟨p, v, s, u⟩ := ⟨_, rfl⟩
  have HCS := Lib.hid hcs
  rw [← hcs]
  clear hcs
  rcases (by omega : ¬ 0 ≤ p ∨ (0 ≤ p ∧ ¬ p < 8) ∨ (0 ≤ p ∧ p < 8 ∧ ¬ 4 ≤ s) ∨ (0 ≤ p ∧ p < 8 ∧ 4 ≤ s ∧ ¬ s ≤ 512) ∨ (0 ≤ p ∧ p < 8 ∧ 4 ≤ s ∧ s ≤ 512)) with q1 | ⟨q1, q2⟩ | ⟨q1, q2, q3⟩ | ⟨q1, q2, q3, q4⟩ | ⟨q1, q2, q3, q4⟩
  all_goals
    go_enter Tryz.func60, Tryz.ntmps60
    go_wp2_with (((with_reducible show wpList _ _ _ (Oper.mk _ (Op.box 47 _) _ _ _ _ :: _) _ _); refine wpList_boxS rfl _ rfl cs (by rfl) ?_))
    intro w1 hb1 hg1 hs1
    have HG1 := Lib.hid hg1
    rw [HCS.out] at hb1
    have c0 : w1.cell? ⟨w.heap.size, 0, none⟩ = some (.int .i64 p) := hb1.cell (j := 0) rfl
    have c2 : w1.cell? ⟨w.heap.size, 2, none⟩ = some (.int .i64 s) := hb1.cell (j := 2) rfl
    clear hb1 hg1 hs1
    go_wp2_with fail
    go_ret
    exact ⟨by rw [HOK.out]; congr 1; first | (simp <;> omega) | (show Value.bool (s % 4 == 0) = _; congr 1; rw [Bool.eq_iff_iff, beq_iff_eq, decide_eq_true_iff]; omega), gbelow HG1.out⟩
theorem sStg : SInfo 87 36 := ⟨by kernel_rfl, _, Tryz.underlying87, rfl⟩
theorem zeroStg : ((Tryz.prog.info? 87).bind (·.zero)) = some (.agg (scells zMan none 0 0).toArray) := by kernel_rfl
theorem build_stg (w : World) (m : Man) (h : m.sum.length = 32) (A : Option Addr) (n c : Nat) : (Instr.build 87 #[(0, .agg (mcells m).toArray), (1, .slice A n c)]).run Tryz.prog w = .ok (.agg (scells m A n c).toArray) w := by
  obtain ⟨p, v, s, u⟩ := m
  match u, h with
  | [x0, x1, x2, x3, x4, x5, x6, x7, x8, x9, x10, x11, x12, x13, x14, x15, x16, x17, x18, x19, x20, x21, x22, x23, x24, x25, x26, x27, x28, x29, x30, x31], _ => exact run_build w _ _ _ (by kernel_rfl)
theorem build_stg1 (w : World) (m : Man) (h : m.sum.length = 32) : (Instr.build 87 #[(0, .agg (mcells m).toArray)]).run Tryz.prog w = .ok (.agg (scells m none 0 0).toArray) w := by
  obtain ⟨p, v, s, u⟩ := m
  match u, h with
  | [x0, x1, x2, x3, x4, x5, x6, x7, x8, x9, x10, x11, x12, x13, x14, x15, x16, x17, x18, x19, x20, x21, x22, x23, x24, x25, x26, x27, x28, x29, x30, x31], _ => exact run_build w _ _ _ (by kernel_rfl)
theorem build_stg0 (w : World) : (Instr.build 87 #[]).run Tryz.prog w = .ok (.agg (scells zMan none 0 0).toArray) w := run_build w _ _ _ (by kernel_rfl)
def RetMan (w : World) (m : Man) (e : Ending) (w' : World) : Prop := e = .returned (.agg (mcells m).toArray) ∧ Below w.heap.size w w'
set_option maxRecDepth 100000 in
set_option maxHeartbeats 4000000 in
theorem iof_calls (w : World) (hG : Gl w) (v : Nat) (A : Option Addr) (n c : Nat) (l : List UInt8) (hn : n = l.length) (hA : RB w w.heap.size A l) (hc : n ≤ c) (hl : n < 1099511627776) :
    Calls Tryz.prog 9 #[.int .i64 0, .int .u32 (v : Int), .slice A n c] w (RetMan w ⟨0, v, (n : Int), shaF l⟩) := by
  have HG := Lib.hid hG
  have HA := Lib.hid hA
  have HN := Lib.hid (And.intro hn (And.intro hc hl))
  clear hG hA hn hc hl
  obtain ⟨S, hS⟩ : ∃ S, S = shaF l := ⟨_, rfl⟩
  have HS := Lib.hid hS
  have HS32 : Hid (S.length = 32) := Lib.hid (by rw [hS]; exact sha_len l)
  rw [← hS]
  clear hS
  obtain ⟨ms, hms⟩ : ∃ ms, ms = mcells ⟨0, v, (n : Int), S⟩ := ⟨_, rfl⟩
  have HMS := Lib.hid hms
  have HM35 : Hid (ms.length = 35) := Lib.hid (by rw [hms]; exact mcells_len _ HS32.out)
  have HM1 : Hid (∀ v ∈ ms, v.oneCell' = true) := Lib.hid (by rw [hms]; exact mcells_one _)
  unfold RetMan
  rw [← hms]
  obtain ⟨ss, hss⟩ : ∃ ss, ss = S.map bv := ⟨_, rfl⟩
  have HSS := Lib.hid hss
  have HBU : Hid (∀ w, (Instr.build 47 #[(0, .int .i64 0), (1, .int .u32 (v : Int)), (2, .int .i64 (n : Int)), (3, .agg ss.toArray)]).run Tryz.prog w = .ok (.agg ms.toArray) w) := Lib.hid fun w => by rw [hms, hss]; exact build_man w 0 v n S HS32.out
  clear hms hss
  go_enter Tryz.func9, Tryz.ntmps9
  go_wp2_with (((with_reducible show wpList _ _ _ (Oper.mk _ (Op.alloc 47) _ _ _ _ :: _) _ _); refine wpList_allocS _ zeroMan rfl rfl ?_))
  intro w1 hb1 hg1 hs1
  have HB1 := Lib.hid hb1
  have HE1 : Hid (Below w.heap.size w w1) := Lib.hid (gbelow hg1)
  have HSH : Hid (Calls Tryz.prog 34 #[.slice A n c] w1 (RetSum w1 S)) := Lib.hid (by rw [HS.out]; exact sha_calls w1 A n c l HN.out.1 ((HA.out.below HE1.out).mono HE1.out.size) HN.out.2.1 HN.out.2.2 (HG.out.below' HE1.out).sha (by have := (HG.out.below' HE1.out).size; omega))
  obtain ⟨b, hb⟩ : ∃ b, b = w.heap.size := ⟨_, rfl⟩
  have HBB := Lib.hid hb
  rw [← hb] at HB1 ⊢
  clear hb1 hg1 hs1 hb HA HG
  go_wp2_with fail
  go_at_call 34
  with_reducible refine HSH.out.mono ?_
  unfold RetSum
  rw [← HSS.out]
  rintro e w2 ⟨rfl, hb2⟩
  have HB2 : Hid (Blk w2 b (mcells zMan)) := Lib.hid (HB1.out.below hb2 HB1.out.lt)
  have HE2 : Hid (Below w.heap.size w w2) := Lib.hid (HE1.out.trans (hb2.mono HE1.out.size))
  clear hb2 HB1 HE1 HSH
  go_wp2_with (first | ((with_reducible show wpList _ _ _ (Oper.mk _ (Op.build 47 _) _ _ _ _ :: _) _ _); refine wpList_buildS rfl _ _ rfl #[(0, .int .i64 0), (1, .int .u32 (v : Int)), (2, .int .i64 (n : Int)), (3, .agg ss.toArray)] ms.toArray (by simp only [List.map_toArray, List.map_cons, List.map_nil]; rfl) (HBU.out _) ?_) | ((with_reducible show wpList _ _ _ (Oper.mk _ (Op.store 47 _ _) _ _ _ _ :: _) _ _); refine wpList_storeS sMan rfl _ _ rfl b _ ms rfl rfl HB2.out (by rfl) HM35.out HM1.out ?_))
  intro w3 hb3 hg3
  have l1 := Lib.hid (run_loadS sMan b ms hb3 HM35.out)
  have HRES : Hid (Below w.heap.size w w3) := Lib.hid (HE2.out.grown hg3 HE2.out.size (fun j e => by injection e with e; have := HBB.out; omega))
  clear hb3 hg3
  go_wp2
  exact bodyPost_ret (v := .agg ms.toArray) (by simp [results, Tryz.results9, asAddr, l1.out]) rfl ⟨rfl, HRES.out⟩
def RetIB (w : World) (m : Man) (ok : Bool) (e : Ending) (w' : World) : Prop := e = .returned (.tuple #[.agg (scells (if ok = true then m else zMan) none 0 0).toArray, .int .i64 (if ok = true then 0 else 1)]) ∧ Below w.heap.size w w'
set_option maxRecDepth 100000 in
set_option maxHeartbeats 4000000 in
theorem ibegin_calls (w : World) (m : Man) (h32 : m.sum.length = 32) :
    Calls Tryz.prog 35 #[.agg (mcells m).toArray] w (RetIB w m m.okB) := by
  have HSI : Hid (∀ m : Man, m.sum.length = 32 → (scells m none 0 0).length = 36) := Lib.hid fun m h => scells_len m h _ _ _
  have HVC : Hid (∀ w, Calls Tryz.prog 60 #[.agg (mcells m).toArray] w (fun e w' => e = .returned (.bool m.okB) ∧ Below w.heap.size w w')) := Lib.hid fun w => valid_calls w m
  have HBU : Hid (∀ w, (Instr.build 87 #[(0, .agg (mcells m).toArray)]).run Tryz.prog w = .ok (.agg (scells m none 0 0).toArray) w) := Lib.hid fun w => build_stg1 w m h32
  have HBZ : Hid (∀ w, (Instr.build 87 #[]).run Tryz.prog w = .ok (.agg (scells zMan none 0 0).toArray) w) := Lib.hid fun w => build_stg0 w
  have HM35 : Hid ((mcells m).length = 35) := Lib.hid (mcells_len m h32)
  have HS36 : Hid ((scells m none 0 0).length = 36) := Lib.hid (scells_len m h32 _ _ _)
  have HS1 : Hid (∀ v ∈ scells m none 0 0, v.oneCell' = true) := Lib.hid (scells_one m _ _ _)
  have HSZ : Hid ((scells zMan none 0 0).length = 36 ∧ ∀ v ∈ scells zMan none 0 0, v.oneCell' = true) := Lib.hid ⟨scells_len zMan rfl _ _ _, scells_one zMan _ _ _⟩
  have HPT : Hid (∀ (w' : World), Below w.heap.size w w' → RetIB w m true (.returned (.tuple #[.agg (scells m none 0 0).toArray, .int .i64 0])) w') := Lib.hid fun w' h => ⟨rfl, h⟩
  have HPF : Hid (∀ (w' : World), Below w.heap.size w w' → RetIB w m false (.returned (.tuple #[.agg (scells zMan none 0 0).toArray, .int .i64 1])) w') := Lib.hid fun w' h => ⟨rfl, h⟩
  clear h32
  obtain ⟨ms, hms⟩ : ∃ ms, ms = mcells m := ⟨_, rfl⟩
  obtain ⟨ns, hns⟩ : ∃ ns, ns = scells m none 0 0 := ⟨_, rfl⟩
  obtain ⟨zs, hzs⟩ : ∃ zs, zs = scells zMan none 0 0 := ⟨_, rfl⟩
  have ZS : Hid (((Tryz.prog.info? 87).bind (·.zero)) = some (.agg zs.toArray)) := Lib.hid (by rw [hzs]; exact zeroStg)
  rw [← hms] at HVC HBU HM35 ⊢
  rw [← hns] at HBU HS36 HS1 HPT
  rw [← hzs] at HBZ HSZ HPF
  clear hms hns hzs HSI
  go_enter Tryz.func35, Tryz.ntmps35
  go_wp2_with (((with_reducible show wpList _ _ _ (Oper.mk _ (Op.box 47 _) _ _ _ _ :: _) _ _); refine wpList_boxS rfl _ rfl ms (by rfl) ?_))
  intro w1 hb1 hg1 hs1
  obtain ⟨b1, hB1⟩ : ∃ b1, b1 = w.heap.size := ⟨_, rfl⟩
  have HBE1 := Lib.hid hB1
  rw [← hB1] at hb1 ⊢
  have HB1 := Lib.hid hb1
  have HE1 : Hid (Below w.heap.size w w1) := Lib.hid (gbelow hg1)
  have HZ1 := Lib.hid hs1
  clear hb1 hg1 hs1 hB1
  go_wp2_with (((with_reducible show wpList _ _ _ (Oper.mk _ (Op.alloc 87) _ _ _ _ :: _) _ _); refine wpList_allocS _ ZS.out rfl rfl ?_))
  intro w2 hb2 hg2 hs2
  obtain ⟨b2, hB2⟩ : ∃ b2, b2 = w1.heap.size := ⟨_, rfl⟩
  have HBE2 := Lib.hid hB2
  rw [← hB2] at hb2 ⊢
  have HB2 := Lib.hid hb2
  have HB12 : Hid (Blk w2 b1 ms) := Lib.hid (HB1.out.grown hg2 (by simp))
  have HE2 : Hid (Below w.heap.size w w2) := Lib.hid (HE1.out.trans ((gbelow hg2).mono HE1.out.size))
  clear hb2 hg2 hs2 hB2 HB1
  go_wp2_with (((with_reducible show wpList _ _ _ (Oper.mk _ (Op.load 47 _) _ _ _ _ :: _) _ _); refine wpList_loadS sMan rfl _ rfl b1 ms rfl HB12.out HM35.out ?_))
  go_at_call 60
  with_reducible refine (HVC.out w2).mono ?_
  rintro e w3 ⟨rfl, hb3⟩
  have HB3 : Hid (Blk w3 b2 zs) := Lib.hid (HB2.out.below hb3 HB2.out.lt)
  have HB13 : Hid (Blk w3 b1 ms) := Lib.hid (HB12.out.below hb3 HB12.out.lt)
  have HE3 : Hid (Below w.heap.size w w3) := Lib.hid (HE2.out.trans (hb3.mono HE2.out.size))
  clear hb3 HB2 HB12 HE2 HVC
  cases hok : m.okB with
  | true =>
    have HOK := Lib.hid hok
    clear hok
    go_wp2_with (first | ((with_reducible show wpList _ _ _ (Oper.mk _ (Op.load 47 _) _ _ _ _ :: _) _ _); refine wpList_loadS sMan rfl _ rfl b1 ms rfl HB13.out HM35.out ?_) | ((with_reducible show wpList _ _ _ (Oper.mk _ (Op.build 87 _) _ _ _ _ :: _) _ _); refine wpList_buildS rfl _ _ rfl #[(0, .agg ms.toArray)] ns.toArray (by simp only [List.map_toArray, List.map_cons, List.map_nil]; rfl) (HBU.out _) ?_) | ((with_reducible show wpList _ _ _ (Oper.mk _ (Op.store 87 _ _) _ _ _ _ :: _) _ _); refine wpList_storeS sStg rfl _ _ rfl b2 _ ns rfl rfl HB3.out HSZ.out.1 HS36.out HS1.out ?_))
    intro w4 hb4 hg4
    have l1 := Lib.hid (run_loadS sStg b2 ns hb4 HS36.out)
    have HRES : Hid (Below w.heap.size w w4) := Lib.hid (HE3.out.grown hg4 HE3.out.size (fun j e => by injection e with e; have := HBE2.out; have := HZ1.out; omega))
    clear hb4 hg4
    go_wp2
    exact bodyPost_ret (v := .tuple #[.agg ns.toArray, .int .i64 0]) (by simp [results, Tryz.results35, asAddr, l1.out]) rfl (by rw [HOK.out]; exact HPT.out _ HRES.out)
  | false =>
  have HOK := Lib.hid hok
  clear hok
  go_wp2_with (first | ((with_reducible show wpList _ _ _ (Oper.mk _ (Op.build 87 _) _ _ _ _ :: _) _ _); refine wpList_buildS rfl _ _ rfl #[] zs.toArray (by simp only [List.map_toArray, List.map_nil]) (HBZ.out _) ?_) | ((with_reducible show wpList _ _ _ (Oper.mk _ (Op.store 87 _ _) _ _ _ _ :: _) _ _); refine wpList_storeS sStg rfl _ _ rfl b2 _ zs rfl rfl HB3.out HSZ.out.1 HSZ.out.1 HSZ.out.2 ?_))
  intro w4 hb4 hg4
  have l1 := Lib.hid (run_loadS sStg b2 zs hb4 HSZ.out.1)
  have HRES : Hid (Below w.heap.size w w4) := Lib.hid (HE3.out.grown hg4 HE3.out.size (fun j e => by injection e with e; have := HBE2.out; have := HZ1.out; omega))
  clear hb4 hg4
  go_wp2
  exact bodyPost_ret (v := .tuple #[.agg zs.toArray, .int .i64 1]) (by simp [results, Tryz.results35, asAddr, l1.out]) rfl (by rw [HOK.out]; exact HPF.out _ HRES.out)
end Go.Proofs.YtjfpoahmjgeogaaGreatDoor
/- bytes.Join of two parts and no separator. -/
namespace Go.Proofs.YtjfpoahmjgeogaaGreatDoor
open Go.RowKit Nac Nac.Img
section
variable {w : World} {ops : Array Oper} {rest : List Oper} {o : Oper} {a : Act} {Q : Exit → Act → World → Prop}
theorem wpList_copyR (hg : o.guard = none) (x y : Operand) (hop : o.op = .call { callee := .builtin .copy, args := #[x, y], argTypes := #[36, 36] })
    (b oo m mc : Nat) (cs : List Value) (A : Option Addr) (n nc : Nat) (l : List UInt8) (hx : a.eval x = .slice (some ⟨b, oo, none⟩) m mc) (hy : a.eval y = .slice A n nc) (hn : n = l.length) (hb : Blk w b cs) (hm : n ≤ m) (hle : oo + n ≤ cs.length)
    {B : Nat} (hsrc : RB w B A l) (h : ∀ w', Hid (Blk w' b (cs.take oo ++ l.map bv ++ cs.drop (oo + n))) → Hid (w.grownBy w' (some b)) → wpList Tryz.prog ops Q rest (a.put o.dst (.int .i64 (n : Int))) w') : wpList Tryz.prog ops Q (o :: rest) a w := by
  subst hn
  by_cases hl : l = []
  · subst hl
    have hr := run_copy_none (P := Tryz.prog) w 36 36 o.type 5 (some ⟨b, oo, none⟩) A m mc 0 nc Tryz.underlying36 (by kernel_rfl) (by simp)
    refine wpList_plain hg fun K hK => ?_
    unfold Oper.wp execOp
    have hy' : a.eval y = .slice A 0 nc := hy
    simp only [hop, resolve, invoke, builtin, Sem.run_bind, Sem.run_pure, Result.andThen_ok, List.map_toArray, List.map_cons, List.map_nil, hx, hy', hr]
    exact hK _ _ (h _ (Lib.hid (by simpa using hb)) (Lib.hid (World.grownBy.refl w _)))
  · obtain ⟨sb, so, rfl, _, hc⟩ := hsrc hl
    refine wpList_copyB hg x y hop b oo m mc cs sb so l.length nc (l.map bv) hx hy hb (by rw [List.length_map]; exact (Nat.min_eq_left hm).symm) (by rw [List.length_map]; exact hle) (fun j v hj => ?_) (bv_one l) (fun w' h1 h2 => ?_)
    · obtain ⟨h1, h2⟩ := List.getElem?_eq_some_iff.1 hj
      rw [List.length_map] at h1
      rw [hc j h1, ← h2, List.getElem_map]
      rfl
    · rw [List.length_map] at h1 ⊢
      exact h w' h1 h2
end
theorem wpList_sliceB {w : World} {ops : Array Oper} {rest : List Oper} {o : Oper} {a : Act} {Q : Exit → Act → World → Prop} (hg : o.guard = none) (x y : Operand) (hop : o.op = .slice 36 x (some y) none none) (b T i : Nat) (hx : a.eval x = .slice (some ⟨b, 0, none⟩) T T) (hy : a.eval y = .int .i64 (i : Int)) (hi : i ≤ T)
    (h : ∀ o2, (i < T → o2 = i) → (i = T → o2 = 0) → wpList Tryz.prog ops Q rest (a.put o.dst (.slice (some ⟨b, o2, none⟩) (T - i) (T - i))) w) : wpList Tryz.prog ops Q (o :: rest) a w := by
  refine wpList_sliceLo (n := 1) Tryz.underlying36 (by kernel_rfl) hg x y hop (some ⟨b, 0, none⟩) T T i hx hy hi fun A2 hA => ?_
  have hA := hA.out
  by_cases e : T = i
  · have := h 0 (fun q => absurd q (by omega)) (fun _ => rfl)
    rw [hA, sliceAdr, if_pos e]
    exact this
  · have := h i (fun _ => rfl) (fun q => absurd q.symm e)
    rw [hA, sliceAdr, if_neg e]
    have e2 : (⟨b, 0, none⟩ : Addr).add (i * 1) = ⟨b, i, none⟩ := by rw [Addr.add_mid]; simp
    rw [Option.map_some, e2]
    exact this
theorem wpList_mnz {w : World} {ops : Array Oper} {rest : List Oper} {o : Oper} {a : Act} {Q : Exit → Act → World → Prop} (hg : o.guard = none) (x : Operand) (ts : Array TypeId) (hop : o.op = .call { callee := .value (.func 85), args := #[x], argTypes := ts }) (T : Nat) (hx : a.eval x = .int .i64 (T : Int)) (hT : T ≤ 1000000)
    (h : ∀ w' cs cap, Blk w' w.heap.size cs → cs.length = cap → T ≤ cap → w.grownBy w' none → w'.heap.size = w.heap.size + 1 → wpList Tryz.prog ops Q rest (a.put o.dst (.slice (some ⟨w.heap.size, 0, none⟩) T cap)) w') : wpList Tryz.prog ops Q (o :: rest) a w := by
  obtain ⟨cs, hrunM, hle, _⟩ := Lib.run_makeNoZero (P := Tryz.prog) w #[3] 36 5 Tryz.underlying36 T (by omega)
  have hcall : (callFunc 85 #[.int .i64 (T : Int)]).run Tryz.prog w = .ok (.value (.slice (some ⟨w.heap.size, 0, none⟩) T cs.size)) (w.drew.drew.alloc (.cells cs 5)) := by
    rw [run_callFunc_extern Tryz.func85 (by kernel_rfl) (by kernel_rfl) (by kernel_rfl) (e := Extern.BytealgMakeNoZero.makeNoZero #[3] #[36]) (by kernel_rfl), hrunM]
    rfl
  have hb := Blk.new w.drew.drew cs.toList 5
  rw [Array.toArray_toList] at hb
  refine wpList_plain hg fun K hK => ?_
  have he : (execOp a.eval o).run Tryz.prog w = .ok (.value (.slice (some ⟨w.heap.size, 0, none⟩) T cs.size)) (w.drew.drew.alloc (.cells cs 5)) := by
    simp [execOp, hop, resolve, Deferred.ofValue, invoke, hx, hcall, show a.eval (Operand.func 85) = Value.func (Fn.func 85) #[] #[] from rfl]
  unfold Oper.wp
  rw [he]
  exact hK _ _ (h _ cs.toList cs.size hb (by simp) hle ⟨rfl, rfl, rfl, by simp, fun k hk _ => (World.grownBy_alloc w.drew.drew (.cells cs 5) none).block k hk (by simp)⟩ (by simp))
def RetJoin (w : World) (l : List UInt8) (e : Ending) (w' : World) : Prop := ∃ g, e = .returned (.slice (some ⟨g, 0, none⟩) l.length l.length) ∧ w.heap.size ≤ g ∧ RB w' w'.heap.size (some ⟨g, 0, none⟩) l ∧ Below w.heap.size w w'
set_option maxRecDepth 100000 in
set_option maxHeartbeats 8000000 in
theorem join_calls (w : World) (b c : Nat) (A0 A1 : Option Addr) (n0 c0 n1 c1 : Nat) (l0 l1 : List UInt8) (e0 : n0 = l0.length) (e1 : n1 = l1.length) (h0 : w.cell? ⟨b, 0, none⟩ = some (.slice A0 n0 c0)) (h1 : w.cell? ⟨b, 1, none⟩ = some (.slice A1 n1 c1)) (hb : b < w.heap.size)
    (r0 : RB w w.heap.size A0 l0) (r1 : RB w w.heap.size A1 l1) (hl : n0 + n1 ≤ 1000000) (h2 : 2 ≤ c) : Calls Tryz.prog 61 #[.slice (some ⟨b, 0, none⟩) 2 c, .slice none 0 0] w (RetJoin w (l0 ++ l1)) := by
  have R0 := Lib.hid r0
  have R1 := Lib.hid r1
  have E0 := Lib.hid e0
  have E1 := Lib.hid e1
  have HL := Lib.hid hl
  have HB := Lib.hid hb
  have H0 := Lib.hid h0
  have H1 := Lib.hid h1
  have h2' : (2 : Int) ≤ (c : Int) := by omega
  have q0 : ¬ (9223372036854775807 : Int) - 0 < (n0 : Int) := by omega
  have q0' : ¬ (9223372036854775807 : Int) < (n0 : Int) := by omega
  have q1 : ¬ (9223372036854775807 : Int) - (n0 : Int) < (n1 : Int) := by omega
  obtain ⟨T, hT⟩ : ∃ T, T = n0 + n1 := ⟨_, rfl⟩
  have HT := Lib.hid hT
  have q2 : (n0 : Int) + (n1 : Int) = (T : Int) := by omega
  have qw : wrap64 (T : Int) = (T : Int) := by unfold wrap64; omega
  have i0 : (0 : Int) ≤ (T : Int) := by omega
  clear r0 r1 e0 e1 hl hb h2 hT
  go_enter Tryz.func61, Tryz.ntmps61
  go_wp2_with fail
  go_loopw [5, 44] (fun s5 s44 wr => w = wr ∧ ((s44 = .int .i64 0 ∧ s5 = .int .i64 0) ∨ (s44 = .int .i64 1 ∧ s5 = .int .i64 (n0 : Int)) ∨ (s44 = .int .i64 2 ∧ s5 = .int .i64 (T : Int)))) (fun _ s44 _ => 2 - (intOf s44).toNat)
  case atStart => exact ⟨rfl, .inl ⟨rfl, rfl⟩⟩
  case round =>
    obtain ⟨rfl, hrel⟩ := hrel
    rcases hrel with ⟨rfl, rfl⟩ | ⟨rfl, rfl⟩ | ⟨rfl, rfl⟩
    · go_wp2_with fail
      go_roundw
      case rel => first | exact ⟨rfl, .inr (.inl ⟨rfl, rfl⟩)⟩ | simp
      case measure => simp [intOf]
    · go_wp2_with fail
      go_roundw
      case rel => first | exact ⟨rfl, .inr (.inr ⟨rfl, by first | rfl | go_num⟩)⟩ | simp
      case measure => simp [intOf]
    · go_wp2_with (((with_reducible show wpList _ _ _ (Oper.mk _ (Op.call (Call.mk (Callee.value _) _ _)) _ _ _ _ :: _) _ _); refine wpList_mnz rfl _ _ rfl T (by rfl) (by have := HL.out; have := HT.out; omega) ?_))
      intro w1 cs hb1 hcap hg1 hs1
      obtain ⟨g, hg⟩ : ∃ g, g = w.heap.size := ⟨_, rfl⟩
      rw [← hg] at hb1 ⊢
      have HG := Lib.hid hg
      have HB1 := Lib.hid hb1
      have HCAP := Lib.hid hcap
      have HE1 : Hid (Below w.heap.size w w1) := Lib.hid (gbelow hg1)
      have i1 : (T : Int) ≤ (cs.length : Int) := by omega
      have k0 : w1.cell? ⟨b, 0, none⟩ = some (.slice A0 n0 c0) := (HE1.out.cell (p := ⟨b, 0, none⟩) HB.out).trans H0.out
      have r0 : Hid (RB w1 w1.heap.size A0 l0) := Lib.hid ((R0.out.below HE1.out).mono HE1.out.size)
      clear hb1 hcap hg1 hs1 hg h0 h1
      go_wp2_with (((with_reducible show wpList _ _ _ (Oper.mk _ (Op.call (Call.mk (Callee.builtin Builtin.copy) _ _)) _ _ _ _ :: _) _ _); refine wpList_copyR rfl _ _ rfl g 0 T T cs A0 n0 c0 l0 rfl rfl E0.out HB1.out (by have := HT.out; omega) (by have := HT.out; have := HCAP.out; omega) r0.out ?_))
      intro w2 hb2 hg2
      have HJ2 : Hid (Below w.heap.size w w2 ∧ ∃ cs, Blk w2 g cs ∧ T ≤ cs.length ∧ cs.take n0 = l0.map bv) := Lib.hid <| by
        have e0 := E0.out
        have et := HT.out
        have hc := HCAP.out
        refine ⟨HE1.out.grown hg2.out HE1.out.size (fun j e => by injection e with e; have := HG.out; omega), _, hb2.out, ?_, ?_⟩
        · simp; omega
        · rw [List.take_append_of_le_length (by rw [List.length_map]; omega), List.take_of_length_le (by rw [List.length_map]; omega)]
      have QC : Hid ((c : Nat) ≠ 1 ∧ 1 ≤ c) := Lib.hid ⟨by omega, by omega⟩
      clear hb2 hg2 k0 r0 HE1 HB1 HCAP i1
      go_wp2_with (((with_reducible show wpList _ _ _ (Oper.mk (some 70) (Op.slice 140 _ _ _ _) _ _ _ _ :: _) _ _); refine wpList_sliceLo (n := 1) Tryz.underlying140 (by kernel_rfl) rfl _ _ rfl (some ⟨b, 0, none⟩) 2 c 1 rfl (by rfl) (by decide) ?_))
      intro A2 hA2
      obtain rfl : A2 = some ⟨b, 1, none⟩ := by rw [hA2.out, sliceAdr, if_neg QC.out.1]; rfl
      clear hA2
      go_wp2_with fail
      go_loopw [9, 72] (fun s9 s72 wr => Below w.heap.size w wr ∧ ((s72 = .int .i64 0 ∧ s9 = .int .i64 (n0 : Int) ∧ Hid (∃ cs, Blk wr g cs ∧ T ≤ cs.length ∧ cs.take n0 = l0.map bv)) ∨ (s72 = .int .i64 1 ∧ s9 = .int .i64 (T : Int) ∧ Hid (∃ cs, Blk wr g cs ∧ T ≤ cs.length ∧ cs.take T = (l0 ++ l1).map bv)))) (fun _ s72 _ => 1 - (intOf s72).toNat)
      case atStart => exact ⟨HJ2.out.1, .inl ⟨rfl, rfl, HJ2.out.2⟩⟩
      case round =>
        obtain ⟨hbel, hrel⟩ := hrel
        have HBW := Lib.hid hbel
        clear hbel HJ2
        rcases hrel with ⟨rfl, rfl, hcs⟩ | ⟨rfl, rfl, hcs⟩
        · obtain ⟨cs, hcb, hcl, hct⟩ := hcs.out
          have HCB := Lib.hid hcb
          have HCL := Lib.hid hcl
          have HCT := Lib.hid hct
          have k1 : wr.cell? ⟨b, 1, none⟩ = some (.slice A1 n1 c1) := (HBW.out.cell (p := ⟨b, 1, none⟩) HB.out).trans H1.out
          have qn : (n0 : Int) ≤ (T : Int) := by have := HT.out; omega
          clear hcb hcl hct hcs
          go_wp2_with (((with_reducible show wpList _ _ _ (Oper.mk (some 79) (Op.slice 36 _ _ _ _) _ _ _ _ :: _) _ _); refine wpList_sliceB rfl _ _ rfl g T n0 rfl (by rfl) (by have := HT.out; omega) ?_))
          intro o2 h2a h2b
          have HO2 := Lib.hid (And.intro h2a h2b)
          clear h2a h2b
          go_wp2_with (((with_reducible show wpList _ _ _ (Oper.mk (some 81) (Op.call (Call.mk (Callee.builtin Builtin.copy) _ _)) _ _ _ _ :: _) _ _); refine wpList_copyR rfl _ _ rfl g o2 (T - n0) (T - n0) cs none 0 0 [] rfl rfl rfl HCB.out (Nat.zero_le _) (by have := HCL.out; have := HO2.out; have := HT.out; omega) (RB.nil wr 0 none) ?_))
          intro w3 hb3 hg3
          have HB3 : Hid (Blk w3 g cs) := Lib.hid (by have := hb3.out; simpa using this)
          have HE3 : Hid (Below w.heap.size w w3) := Lib.hid (HBW.out.grown hg3.out HBW.out.size (fun j e => by injection e with e; have := HG.out; omega))
          have k3 : Hid (RB w3 w3.heap.size A1 l1) := Lib.hid ((R1.out.below HE3.out).mono HE3.out.size)
          clear hb3 hg3 k1
          go_wp2_with (((with_reducible show wpList _ _ _ (Oper.mk (some 86) (Op.slice 36 _ _ _ _) _ _ _ _ :: _) _ _); refine wpList_sliceB rfl _ _ rfl g T n0 rfl (by rfl) (by have := HT.out; omega) ?_))
          intro o3 h3a h3b
          have HO3 := Lib.hid (And.intro h3a h3b)
          clear h3a h3b
          go_wp2_with (((with_reducible show wpList _ _ _ (Oper.mk (some 88) (Op.call (Call.mk (Callee.builtin Builtin.copy) _ _)) _ _ _ _ :: _) _ _); refine wpList_copyR rfl _ _ rfl g o3 (T - n0) (T - n0) cs A1 n1 c1 l1 rfl rfl E1.out HB3.out (by have := HT.out; omega) (by have := HCL.out; have := HO3.out; have := HT.out; omega) k3.out ?_))
          intro w4 hb4 hg4
          have HE4 : Hid (Below w.heap.size w w4) := Lib.hid (HE3.out.grown hg4.out HE3.out.size (fun j e => by injection e with e; have := HG.out; omega))
          have HJ4 : Hid (∃ cs, Blk w4 g cs ∧ T ≤ cs.length ∧ cs.take T = (l0 ++ l1).map bv) := Lib.hid <| by
            have e0 := E0.out
            have e1 := E1.out
            have et := HT.out
            have hc := HCL.out
            have ho := HO3.out
            refine ⟨cs.take o3 ++ l1.map bv ++ cs.drop (o3 + n1), by simpa only [List.append_assoc] using hb4.out, ?_, ?_⟩
            · simp; omega
            · by_cases hz : n1 = 0
              · have hl1 : l1 = [] := List.eq_nil_of_length_eq_zero (by omega)
                rw [hl1, hz]
                simp only [List.map_nil, List.append_nil, Nat.add_zero, List.take_append_drop]
                rw [show T = n0 by omega]
                exact HCT.out
              · rw [show o3 = n0 by omega, HCT.out, List.take_append_of_le_length (by simp; omega), List.take_of_length_le (by simp; omega), List.map_append]
          clear hb4 hg4 HB3 HE3 k3
          go_wp2_with fail
          go_roundw
          case rel => exact ⟨HE4.out, .inr ⟨rfl, by first | rfl | go_num, HJ4⟩⟩
          case measure => simp [intOf]
        · have HJ := hcs
          clear hcs
          go_wp2_with fail
          go_ret
          have hlen : (l0 ++ l1).length = T := by rw [List.length_append, ← E0.out, ← E1.out, HT.out]
          refine ⟨g, by rw [hlen]; rfl, by rw [HG.out]; exact Nat.le_refl _, fun hne => ?_, HBW.out⟩
          obtain ⟨cs, hcb, hcl, hct⟩ := HJ.out
          refine ⟨g, 0, rfl, hcb.lt, fun j hj => ?_⟩
          rw [Nat.zero_add]
          refine hcb.cell ?_
          have h1 : (cs.take T)[j]? = some (bv ((l0 ++ l1)[j])) := by rw [hct, List.getElem?_map, List.getElem?_eq_getElem hj]; rfl
          rw [List.getElem?_take_of_lt (by omega)] at h1
          exact h1
end Go.Proofs.YtjfpoahmjgeogaaGreatDoor
/- image: Chunk. -/
namespace Nac.Img
theorem scells_got (m : Man) (h : m.sum.length = 32) (A : Option Go.Addr) (n c : Nat) : (scells m A n c)[35]? = some (.slice A n c) := by
  unfold scells
  rw [List.getElem?_append_right (by rw [mcells_len m h]; exact Nat.le_refl _), mcells_len m h]
  rfl
end Nac.Img
namespace Go.Proofs.YtjfpoahmjgeogaaGreatDoor
open Go.RowKit Nac Nac.Img Nac.Sha
theorem infoBs : (Tryz.prog.info? 36).map (fun i => (i.zero, i.size, i.bytes)) = some (some (.slice none 0 0), 1, 24) := by kernel_rfl
theorem build2_bb (w : World) (A0 : Option Addr) (n0 c0 : Nat) (A1 : Option Addr) (n1 c1 : Nat) : (Instr.buildSlice 140 2 #[(0, .slice A0 n0 c0), (1, .slice A1 n1 c1)]).run Tryz.prog w = .ok (.slice (some ⟨w.heap.size, 0, none⟩) 2 2) (w.alloc (.cells #[.slice A0 n0 c0, .slice A1 n1 c1] 36)) := by
  obtain ⟨ti, hi, hz, hs1, hb1⟩ := info_parts infoBs
  refine run_buildSlice w _ _ 2 _ _ ti _ Tryz.underlying140 hi hz (by rw [hs1]; decide) (by rw [hs1]; decide) ?_
  rw [hs1]; kernel_rfl
def rowVD (A0 : Option Addr) (n0 c0 : Nat) (A1 : Option Addr) (n1 c1 : Nat) : VD := .pr (fun v w => ∃ g, v = .slice (some ⟨g, 0, none⟩) 2 2 ∧ Blk w g [.slice A0 n0 c0, .slice A1 n1 c1]) (fun _ _ _ ⟨g, h1, h2⟩ hb => ⟨g, h1, h2.below hb h2.lt⟩)
def BNew (B : Nat) (l : List UInt8) (v : Value) (w : World) : Prop := ∃ g, v = .slice (some ⟨g, 0, none⟩) l.length l.length ∧ B ≤ g ∧ RB w w.heap.size (some ⟨g, 0, none⟩) l
def newVD (B : Nat) (l : List UInt8) : VD := .pr (BNew B l) (fun _ _ _ ⟨g, h1, h2, h3⟩ hb => ⟨g, h1, h2, (h3.below hb).mono hb.size⟩)
def BStg (B : Nat) (m : Man) (l : List UInt8) (v : Value) (w : World) : Prop := ∃ g, v = .agg (scells m (some ⟨g, 0, none⟩) l.length l.length).toArray ∧ B ≤ g ∧ RB w w.heap.size (some ⟨g, 0, none⟩) l
def stgVD (B : Nat) (m : Man) (l : List UInt8) : VD := .pr (BStg B m l) (fun _ _ _ ⟨g, h1, h2, h3⟩ hb => ⟨g, h1, h2, (h3.below hb).mono hb.size⟩)
section
variable {ops : Array Oper} {Q : Exit → Act → World → Prop} {D : Nat → VD} {a0 : Act} {W0 : World} {i : Nat} {o : Oper}
theorem mstep_bs2 (ho : ops[i]? = some o) (hw : ∀ a w, MCtx ops D a0 W0 i a w → Region.wanted o (yielded ops a.tmps) = true) (x y : Tmp) (hop : o.op = .buildSlice 140 2 #[(0, .tmp x), (1, .tmp y)])
    (kx ky : Nat) (hkx : (preds ops 3 i).contains kx = true) (hky : (preds ops 3 i).contains ky = true) (hx : dstOf ops kx = some x) (hy : dstOf ops ky = some y) (A0 : Option Addr) (n0 c0 : Nat) (A1 : Option Addr) (n1 c1 : Nat) (hDx : D kx = .is (.slice A0 n0 c0)) (hDy : D ky = .is (.slice A1 n1 c1)) (hD : D i = rowVD A0 n0 c0 A1 n1 c1) : MStep Tryz.prog ops Q D a0 W0 i :=
  mstep_val ho hw fun a w c => by
    have h1 := c.pred kx x (by simpa using hkx) hx
    rw [hDx] at h1
    have h1 : a.tmps.getD x undef = .slice A0 n0 c0 := h1
    have h2 := c.pred ky y (by simpa using hky) hy
    rw [hDy] at h2
    have h2 : a.tmps.getD y undef = .slice A1 n1 c1 := h2
    refine ⟨.slice (some ⟨w.heap.size, 0, none⟩) 2 2, w.alloc (.cells #[.slice A0 n0 c0, .slice A1 n1 c1] 36), ?_, by rw [hD]; exact ⟨_, rfl, Blk.new w [.slice A0 n0 c0, .slice A1 n1 c1] 36⟩, (Below.refl _ _).alloc (Nat.le_refl _) _⟩
    unfold execOp
    simp only [hop, List.map_toArray, List.map_cons, List.map_nil, Act.eval, h1, h2]
    rw [Sem.run_bind, build2_bb]
    rfl
theorem mstep_join (ho : ops[i]? = some o) (hw : ∀ a w, MCtx ops D a0 W0 i a w → Region.wanted o (yielded ops a.tmps) = true) (x : Tmp) (ts : Array TypeId) (hop : o.op = .call { callee := .value (.func 61), args := #[.tmp x, .const (.slice none 0 0)], argTypes := ts })
    (kx : Nat) (hkx : (preds ops 3 i).contains kx = true) (hx : dstOf ops kx = some x) (A0 : Option Addr) (n0 c0 : Nat) (A1 : Option Addr) (n1 c1 : Nat) (hDx : D kx = rowVD A0 n0 c0 A1 n1 c1) (B : Nat) (L : List UInt8)
    (h : ∀ w, Below W0.heap.size W0 w → ∀ g, Blk w g [.slice A0 n0 c0, .slice A1 n1 c1] → Calls Tryz.prog 61 #[.slice (some ⟨g, 0, none⟩) 2 2, .slice none 0 0] w (fun e w' => ∃ v, e = .returned v ∧ BNew B L v w' ∧ Below w.heap.size w w')) (hD : D i = newVD B L) : MStep Tryz.prog ops Q D a0 W0 i :=
  mstep_call ho hw _ _ _ hop (enters_of Tryz.func61 (by kernel_rfl) rfl) fun a w c => by
    have h1 := c.pred kx x (by simpa using hkx) hx
    rw [hDx] at h1
    obtain ⟨g, h1, h2⟩ := h1
    simp only [List.map_toArray, List.map_cons, List.map_nil, Act.eval, h1]
    rw [hD]
    exact h w c.below g h2
theorem mstep_bstg (ho : ops[i]? = some o) (hw : ∀ a w, MCtx ops D a0 W0 i a w → Region.wanted o (yielded ops a.tmps) = true) (x y : Tmp) (hop : o.op = .build 87 #[(0, .tmp x), (1, .tmp y)])
    (kx ky : Nat) (hkx : (preds ops 3 i).contains kx = true) (hky : (preds ops 3 i).contains ky = true) (hx : dstOf ops kx = some x) (hy : dstOf ops ky = some y) (m : Man) (ms : List Value) (B : Nat) (L : List UInt8) (hms : ms = mcells m) (h32 : m.sum.length = 32) (hDx : D kx = .is (.agg ms.toArray)) (hDy : D ky = newVD B L) (hD : D i = stgVD B m L) : MStep Tryz.prog ops Q D a0 W0 i :=
  mstep_val ho hw fun a w c => by
    have h1 := c.pred kx x (by simpa using hkx) hx
    rw [hDx] at h1
    have h1 : a.tmps.getD x undef = .agg (mcells m).toArray := by rw [← hms]; exact h1
    have h2 := c.pred ky y (by simpa using hky) hy
    rw [hDy] at h2
    obtain ⟨g, h2, h3, h4⟩ := h2
    refine ⟨.agg (scells m (some ⟨g, 0, none⟩) L.length L.length).toArray, w, ?_, by rw [hD]; exact ⟨g, rfl, h3, h4⟩, Below.refl _ _⟩
    have he' : (#[((0 : Nat), Operand.tmp x), (1, Operand.tmp y)].map fun (i, z) => (i, a.eval z)) = #[(0, .agg (mcells m).toArray), (1, .slice (some ⟨g, 0, none⟩) L.length L.length)] := by
      simp only [List.map_toArray, List.map_cons, List.map_nil, Act.eval, h1, h2]
    unfold execOp
    simp only [hop, Sem.run_bind, he', build_stg w m h32, Result.andThen_ok]
    rfl
end
def RetChk (w : World) (m : Man) (l : List UInt8) (e : Ending) (w' : World) : Prop := ∃ g, e = .returned (.tuple #[.agg (scells m (some ⟨g, 0, none⟩) l.length l.length).toArray, .int .i64 0]) ∧ w.heap.size ≤ g ∧ RB w' w'.heap.size (some ⟨g, 0, none⟩) l ∧ Below w.heap.size w w'
set_option maxRecDepth 100000 in
set_option maxHeartbeats 8000000 in
theorem ichunk_calls (w : World) (m : Man) (sz : Nat) (h32 : m.sum.length = 32) (hok : m.okB = true) (hsz : m.size = (sz : Int)) (A0 A1 : Option Addr) (n0 c0 n1 c1 : Nat) (l0 l1 : List UInt8) (e0 : n0 = l0.length) (e1 : n1 = l1.length)
    (r0 : RB w w.heap.size A0 l0) (r1 : RB w w.heap.size A1 l1) (hle : n0 + n1 ≤ sz) (hs : sz ≤ 1000000) :
    Calls Tryz.prog 37 #[.agg (scells m A0 n0 c0).toArray, .int .i64 (n0 : Int), .slice A1 n1 c1] w (RetChk w m (l0 ++ l1)) := by
  have R := Lib.hid (And.intro r0 r1)
  have E := Lib.hid (And.intro e0 e1)
  have H32 := Lib.hid h32
  have HOK := Lib.hid hok
  have HLE := Lib.hid (And.intro hle hs)
  have q1 : ¬ (sz : Int) < (n0 : Int) := by omega
  have q2 : ¬ (sz : Int) - (n0 : Int) < (n1 : Int) := by omega
  have q3 : (0 : Int) ≤ (n0 : Int) := by omega
  have q4 : (sz : Int) ≤ 1000000 := by omega
  have q5 : (n0 : Int) ≤ 1000000 := by omega
  have HVC : Hid (∀ w, Calls Tryz.prog 60 #[.agg (mcells m).toArray] w (fun e w' => e = .returned (.bool true) ∧ Below w.heap.size w w')) := Lib.hid fun w => by have := valid_calls w m; rw [hok] at this; exact this
  obtain ⟨ss, hss⟩ : ∃ ss, ss = scells m A0 n0 c0 := ⟨_, rfl⟩
  obtain ⟨ms, hms⟩ : ∃ ms, ms = mcells m := ⟨_, rfl⟩
  obtain ⟨L, hL⟩ : ∃ L, L = l0 ++ l1 := ⟨_, rfl⟩
  have HLL := Lib.hid hL
  have HMS := Lib.hid hms
  have HM35 : Hid (ms.length = 35) := Lib.hid (by rw [hms, mcells_len m h32])
  have HSM : Hid (ss = ms ++ [.slice A0 n0 c0]) := Lib.hid (by rw [hss, hms]; rfl)
  have HS2 : Hid (ss[2]? = some (.int .i64 (sz : Int))) := Lib.hid (by rw [hss, ← hsz]; rfl)
  have HS35 : Hid (ss[35]? = some (.slice A0 n0 c0)) := Lib.hid (by rw [hss]; exact scells_got m h32 _ _ _)
  obtain ⟨zs, hzs⟩ : ∃ zs, zs = scells zMan none 0 0 := ⟨_, rfl⟩
  have ZS : Hid (((Tryz.prog.info? 87).bind (·.zero)) = some (.agg zs.toArray) ∧ zs.length = 36) := Lib.hid ⟨by rw [hzs]; exact zeroStg, by rw [hzs]; exact scells_len zMan rfl _ _ _⟩
  rw [← hss, ← hL]
  rw [← hms] at HVC
  clear hss hms hL hzs r0 r1 e0 e1 hle hs hsz h32 hok
  go_enter Tryz.func37, Tryz.ntmps37
  go_wp2_with (((with_reducible show wpList _ _ _ (Oper.mk _ (Op.box 87 _) _ _ _ _ :: _) _ _); refine wpList_boxS rfl _ rfl ss (by rfl) ?_))
  intro w1 hb1 hg1 hs1
  obtain ⟨b3, hB3⟩ : ∃ b3, b3 = w.heap.size := ⟨_, rfl⟩
  have HB3 := Lib.hid hB3
  rw [← hB3] at hb1 ⊢
  have HB1 := Lib.hid hb1
  have HE1 : Hid (Below w.heap.size w w1) := Lib.hid (gbelow hg1)
  have HZ1 := Lib.hid hs1
  clear hb1 hg1 hs1 hB3
  go_wp2_with (((with_reducible show wpList _ _ _ (Oper.mk _ (Op.alloc 87) _ _ _ _ :: _) _ _); refine wpList_allocS _ ZS.out.1 rfl rfl ?_))
  intro w2 hb2 hg2 hs2
  obtain ⟨b6, hB6⟩ : ∃ b6, b6 = w1.heap.size := ⟨_, rfl⟩
  have HB6 := Lib.hid hB6
  rw [← hB6] at hb2 ⊢
  have HBZ := Lib.hid hb2
  have HBS : Hid (Blk w2 b3 ss) := Lib.hid (HB1.out.grown hg2 (by simp))
  have HE2 : Hid (Below w.heap.size w w2) := Lib.hid (HE1.out.trans ((gbelow hg2).mono HE1.out.size))
  have k2 : w2.cell? ⟨b3, 2, none⟩ = some (.int .i64 (sz : Int)) := HBS.out.cell HS2.out
  clear hb2 hg2 hs2 hB6 HB1 HE1
  go_wp2_with (((with_reducible show wpList _ _ _ (Oper.mk (some 14) (Op.load 47 _) _ _ _ _ :: _) _ _); refine wpList_loadM sMan rfl _ rfl b3 0 ms rfl (Blk.range HBS.out 0 _ ⟨[], _, by rw [HSM.out]; rfl, rfl⟩) HM35.out ?_))
  go_at_call 60
  with_reducible refine (HVC.out w2).mono ?_
  rintro e w3 ⟨rfl, hb3⟩
  have HB63 : Hid (Blk w3 b6 zs) := Lib.hid (HBZ.out.below hb3 HBZ.out.lt)
  have HBS3 : Hid (Blk w3 b3 ss) := Lib.hid (HBS.out.below hb3 HBS.out.lt)
  have HE3 : Hid (Below w.heap.size w w3) := Lib.hid (HE2.out.trans (hb3.mono HE2.out.size))
  have k35 : w3.cell? ⟨b3, 35, none⟩ = some (.slice A0 n0 c0) := HBS3.out.cell HS35.out
  obtain ⟨B0, hB0⟩ : ∃ B0, B0 = w3.heap.size := ⟨_, rfl⟩
  have HB0 := Lib.hid hB0
  clear hb3 HBZ HBS HE2 HVC k2 hB0
  have LM : Hid (∀ w', Below w3.drew.heap.size w3.drew w' → (Instr.loadAt 47 (.pointer (some ⟨b3, 0, none⟩))).run Tryz.prog w' = .ok (.agg ms.toArray) w') := Lib.hid fun w' hb => run_loadAtM sMan w' b3 0 ms (Blk.range (HBS3.out.keep (hb.block b3 HBS3.out.lt)) 0 _ ⟨[], _, by rw [HSM.out]; rfl, rfl⟩) HM35.out
  have CG : Hid (∀ w', Below w3.drew.heap.size w3.drew w' → w'.cell? ⟨b3, 35, none⟩ = some (.slice A0 n0 c0)) := Lib.hid fun w' hb => (HBS3.out.keep (hb.block b3 HBS3.out.lt)).cell HS35.out
  have JO : Hid (∀ w', Below w3.drew.heap.size w3.drew w' → ∀ g, Blk w' g [.slice A0 n0 c0, .slice A1 n1 c1] → Calls Tryz.prog 61 #[.slice (some ⟨g, 0, none⟩) 2 2, .slice none 0 0] w' (fun e w'' => ∃ v, e = .returned v ∧ BNew B0 L v w'' ∧ Below w'.heap.size w' w'')) := Lib.hid fun w' hb g hg => by
    have hbb : Below w.heap.size w w' := HE3.out.trans (Below.mono ⟨hb.os, hb.tape, hb.output, hb.size, hb.block⟩ HE3.out.size)
    have hsz : w3.heap.size ≤ w'.heap.size := hb.size
    refine (join_calls w' g 2 A0 A1 n0 c0 n1 c1 l0 l1 E.out.1 E.out.2 (hg.cell rfl) (hg.cell rfl) hg.lt ((R.out.1.below hbb).mono hbb.size) ((R.out.2.below hbb).mono hbb.size) (by have := HLE.out; omega) (Nat.le_refl _)).mono ?_
    rintro e w'' ⟨g2, rfl, h1, h2, h3⟩
    rw [← HLL.out] at h2 ⊢
    exact ⟨_, rfl, ⟨g2, rfl, by rw [HB0.out]; exact Nat.le_trans hsz h1, h2⟩, h3⟩
  go_wp2_with fail
  refine region_tails 8 (fun ix9 => ([.is (.pointer (some ⟨b3, 0, none⟩)), .is (.agg ms.toArray), .is (.pointer (some ⟨b3, 35, none⟩)), .is (.slice A0 n0 c0), .is (.slice A1 n1 c1), rowVD A0 n0 c0 A1 n1 c1, newVD B0 L, stgVD B0 m L] : List VD).getD ix9 (.is undef)) [some 42, some 43, some 44, some 45, some 46, some 47, some 48, some 49] (by kernel_rfl) (by kernel_rfl) (by kernel_rfl) (by kernel_rfl) rfl (fun ii hii => ?_) ?_
  · match ii, hii with
    | 0, _ => exact mstep_pure rfl (mwant_none rfl) (fun aa ww cc => ⟨.pointer (some ⟨b3, 0, none⟩), by have e0 : aa.tmps.getD 3 undef = .pointer (some ⟨b3, 0, none⟩) := (cc.orig 3 (by kernel_rfl)).trans rfl; simp only [execOp, Act.eval]; go_simp, rfl⟩)
    | 1, _ => exact mstep_loadO rfl (mwant_none rfl) 42 _ rfl 0 (by kernel_rfl) rfl _ _ rfl rfl (fun w hb => LM.out w hb)
    | 2, _ => exact mstep_pure rfl (mwant_none rfl) (fun aa ww cc => ⟨.pointer (some ⟨b3, 35, none⟩), by have e0 : aa.tmps.getD 3 undef = .pointer (some ⟨b3, 0, none⟩) := (cc.orig 3 (by kernel_rfl)).trans rfl; simp only [execOp, Act.eval]; go_simp, rfl⟩)
    | 3, _ => exact mstep_pure rfl (mwant_none rfl) (fun aa ww cc => ⟨.slice A0 n0 c0, by have e0 : aa.tmps.getD 44 undef = .pointer (some ⟨b3, 35, none⟩) := cc.slot 2 44 (by kernel_rfl) rfl; have q := CG.out _ cc.below; simp only [execOp, Act.eval]; go_simp, rfl⟩)
    | 4, _ => exact mstep_first rfl (mwant_none rfl) 2 (Or.inl rfl) (by kernel_rfl) (fun _ _ => rfl)
    | 5, _ => exact mstep_bs2 rfl (mwant_none rfl) 45 46 rfl 3 4 (by kernel_rfl) (by kernel_rfl) rfl rfl A0 n0 c0 A1 n1 c1 rfl rfl rfl
    | 6, _ => exact mstep_join rfl (mwant_none rfl) 47 _ rfl 5 (by kernel_rfl) rfl A0 n0 c0 A1 n1 c1 rfl B0 L JO.out rfl
    | 7, _ => exact mstep_bstg rfl (mwant_none rfl) 43 48 rfl 1 6 (by kernel_rfl) (by kernel_rfl) rfl rfl m ms B0 L HMS.out H32.out rfl rfl rfl
    | n + 8, h => exact absurd h (by show ¬ (n + 8 < 8); omega)
  · intro VV w5 hlen hb5 hok
    match VV, hlen with
    | [v0, v1, v2, v3, v4, v5, v6, v7], _ =>
      obtain rfl : v0 = .pointer (some ⟨b3, 0, none⟩) := hok 0 42 rfl
      obtain rfl : v1 = .agg ms.toArray := hok 1 43 rfl
      obtain rfl : v2 = .pointer (some ⟨b3, 35, none⟩) := hok 2 44 rfl
      obtain rfl : v3 = .slice A0 n0 c0 := hok 3 45 rfl
      obtain rfl : v4 = .slice A1 n1 c1 := hok 4 46 rfl
      have p5 := hok 5 47 rfl
      have p6 := hok 6 48 rfl
      have p7 := hok 7 49 rfl
      obtain ⟨g, rfl, hgB, hgr⟩ : BStg B0 m L v7 w5 := p7
      clear p5 p6
      have hb5' : Below w3.heap.size w3 w5 := ⟨hb5.os, hb5.tape, hb5.output, hb5.size, hb5.block⟩
      have HGB := Lib.hid (And.intro hgB hgr)
      have HE5 : Hid (Below w.heap.size w w5) := Lib.hid (HE3.out.trans (hb5'.mono HE3.out.size))
      have HB65 : Hid (Blk w5 b6 zs) := Lib.hid (HB63.out.below hb5' HB63.out.lt)
      obtain ⟨ns, hns⟩ : ∃ ns, ns = scells m (some ⟨g, 0, none⟩) L.length L.length := ⟨_, rfl⟩
      have HNS := Lib.hid hns
      have HN36 : Hid (ns.length = 36 ∧ ∀ v ∈ ns, v.oneCell' = true) := Lib.hid (by rw [hns]; exact ⟨scells_len m H32.out _ _ _, scells_one m _ _ _⟩)
      rw [← hns]
      have HB63l : Hid (b6 < w3.heap.size) := Lib.hid HB63.out.lt
      have HE3s : Hid (w.heap.size ≤ w3.heap.size) := Lib.hid HE3.out.size
      clear hgB hgr hb5 hb5' hok hns CG LM JO k35 HB63 HBS3 HE3
      simp only [List.zip_cons_cons, List.zip_nil_right, putsL]
      go_simp
      go_wp2_with (((with_reducible show wpList _ _ _ (Oper.mk _ (Op.store 87 _ _) _ _ _ _ :: _) _ _); refine wpList_storeS sStg rfl _ _ rfl b6 _ ns rfl rfl HB65.out ZS.out.2 HN36.out.1 HN36.out.2 ?_))
      intro w6 hb6 hg6
      have l1' := Lib.hid (run_loadS sStg b6 ns hb6 HN36.out.1)
      have HRES : Hid (RetChk w m L (.returned (.tuple #[.agg ns.toArray, .int .i64 0])) w6) := Lib.hid <| by
        have hx : Below w.heap.size w w6 := HE5.out.grown hg6 HE5.out.size (fun j e => by injection e with e; have := HB6.out; have := HZ1.out; omega)
        have hgr := HGB.out.2
        have hgB := HGB.out.1
        rw [HB0.out] at hgB
        have h6 := HB63l.out
        refine ⟨g, by rw [HNS.out], Nat.le_trans HE3s.out hgB, fun hne => ?_, hx⟩
        obtain ⟨b, o, hA, hbl, hc⟩ := hgr hne
        injection hA with hA
        injection hA with e1 e2
        subst e1
        refine ⟨_, o, by rw [e2], Nat.lt_of_lt_of_le hbl hg6.size, fun j hj => ?_⟩
        rw [← hc j hj]
        unfold World.cell?
        rw [hg6.block _ hbl (by simp; omega)]
      clear hb6 hg6
      go_wp2
      exact bodyPost_ret (v := .tuple #[.agg ns.toArray, .int .i64 0]) (by simp [results, Tryz.results37, asAddr, l1'.out]) rfl HRES.out
end Go.Proofs.YtjfpoahmjgeogaaGreatDoor
/- Instructions in a row: built, appended. -/
namespace Nac
open Go Go.RowKit
section
variable {P : Program} {ops : Array Oper} {Q : Exit → Act → World → Prop} {D : Nat → Value → Prop} {J : (Nat → Bool) → World → Prop} {a0 : Act} {i : Nat} {o : Oper}
theorem vstep_build (ho : ops[i]? = some o) (hw : ∀ L a w, VCtx ops D J a0 i L a w → Region.wanted o (yielded ops a.tmps) = true) (hJ : ∀ L w, J L w → J (upd L i) w) (t : TypeId) (parts : Array (Nat × Operand)) (hop : o.op = .build t parts)
    (vals : Array (Nat × Value)) (cells : Array Value) (he : ∀ L a w, VCtx ops D J a0 i L a w → parts.map (fun x => (x.1, a.eval x.2)) = vals) (hb : P.built t vals.toList = some cells) (hD : D i (.agg cells)) : VStep P ops Q D J a0 i :=
  vstep_pure ho hw hJ fun L a w c => ⟨.agg cells, by
    have e := he L a w c
    unfold execOp
    simp only [hop, e, Sem.run_bind, run_build w t vals cells hb, Result.andThen_ok, Sem.run_pure], hD⟩
end
end Nac
namespace Go.Proofs.YtjfpoahmjgeogaaGreatDoor
open Go.RowKit Nac Nac.Pvm
def insC (l : List Ins) : List Value := (l.map icells).flatten
theorem insC_len (l : List Ins) : (insC l).length = l.length * 4 := by
  unfold insC
  rw [flatten_len 4 _ (fun x hx => by obtain ⟨y, _, rfl⟩ := List.mem_map.1 hx; rfl), List.length_map, Nat.mul_comm]
theorem ins_len4 (l : List Ins) : ∀ x ∈ l.map icells, x.length = 4 := fun x hx => by obtain ⟨y, _, rfl⟩ := List.mem_map.1 hx; rfl
theorem Tryz.infoIns : (Tryz.prog.info? 94).map (fun i => (i.zero, i.size, i.bytes)) = some (some (.agg #[.int .u8 0, .int .u8 0, .int .u8 0, .int .u8 0]), 4, 4) := by kernel_rfl
end Go.Proofs.YtjfpoahmjgeogaaGreatDoor
/- Decode: instructions out of bytes. -/
namespace Nac
open Go Go.RowKit
theorem made4 (z : Value) (n : Nat) : (madeCells #[z, z, z, z] (n * 4)).toList = ((List.replicate n [z, z, z, z]).flatten : List Value) := by
  have h : ∀ j, j < n * 4 → (madeCells #[z, z, z, z] (n * 4)).toList[j]? = some z := fun j hj => by
    have h4 : j % 4 < 4 := Nat.mod_lt _ (by decide)
    simp [madeCells, hj]
    rcases (by omega : j % 4 = 0 ∨ j % 4 = 1 ∨ j % 4 = 2 ∨ j % 4 = 3) with h | h | h | h <;> rw [h] <;> rfl
  have e : (List.replicate n [z, z, z, z]).flatten = List.replicate (n * 4) z := by
    induction n with
    | zero => rfl
    | succ n ih =>
    have ih' := ih (fun j hj => by
      have h4 : j % 4 < 4 := Nat.mod_lt _ (by decide)
      simp [madeCells, hj]
      rcases (by omega : j % 4 = 0 ∨ j % 4 = 1 ∨ j % 4 = 2 ∨ j % 4 = 3) with h | h | h | h <;> rw [h] <;> rfl)
    rw [List.replicate_succ, List.flatten_cons, ih', Nat.succ_mul, Nat.add_comm, ← List.replicate_append_replicate]
    rfl
  rw [e]
  apply List.ext_getElem?
  intro j
  by_cases hj : j < n * 4
  · rw [h j hj, List.getElem?_replicate, if_pos hj]
  · rw [List.getElem?_eq_none (by simp [madeCells]; omega), List.getElem?_eq_none (by simp; omega)]
end Nac
namespace Go.Proofs.YtjfpoahmjgeogaaGreatDoor
open Go.RowKit Nac Nac.Pvm
def zI : Ins := ⟨0, 0, 0, 0⟩
theorem insC_zero (n : Nat) : (madeCells #[.int .u8 0, .int .u8 0, .int .u8 0, .int .u8 0] (n * 4)).toList = insC (List.replicate n zI) := by
  rw [made4]
  unfold insC
  rw [List.map_replicate]
  rfl
theorem insC_set (M : List Ins) (k : Nat) (hk : k < M.length) (i : Ins) : (insC M).take (k * 4) ++ icells i ++ (insC M).drop (k * 4 + 4) = insC (M.set k i) := by
  have := flatten_set 4 (M.map icells) (ins_len4 M) k (by simpa using hk) (icells i) rfl
  rw [Nat.mul_comm 4 k] at this
  unfold insC
  rw [this, List.map_set]
theorem rin_blk {w : World} {B : Nat} {l : List Ins} (h : Blk w B (insC l)) (hf : ∀ i ∈ l, i.fits) : RIn w w.heap.size (some ⟨B, 0, none⟩) l := fun hn => by
  refine ⟨B, 0, rfl, h.lt, fun j hj => ?_⟩
  have hc : ∀ f (hf : f < 4), w.cell? ⟨B, 0 + j * 4 + f, none⟩ = some ((icells l[j])[f]'(by simpa [icells] using hf)) := fun f hf => by
    obtain ⟨hj', he⟩ := flat_get (ins_len4 l) (p := j) (f := f) (by simpa using hj) hf
    refine h.cell ?_
    rw [Nat.zero_add]
    unfold insC
    rw [List.getElem?_eq_getElem hj', he]
    simp
  exact ⟨hc 0 (by decide), hc 1 (by decide), hc 2 (by decide), hc 3 (by decide), hf _ (List.getElem_mem hj)⟩
section
variable {w : World} {ops : Array Oper} {rest : List Oper} {o : Oper} {a : Act} {Q : Exit → Act → World → Prop}
theorem wpList_make_ins (hg : o.guard = none) (l c : Operand) (hop : o.op = Op.makeSlice 35 l c) (n : Nat) (hn : n ≤ 1000000) (hl : a.eval l = .int .i64 (n : Int)) (hc : a.eval c = .int .i64 (n : Int))
    (hK : ∀ w', Blk w' w.heap.size (insC (List.replicate n zI)) → w.grownBy w' none → wpList Tryz.prog ops Q rest (a.put o.dst (.slice (some ⟨w.heap.size, 0, none⟩) n n)) w') : wpList Tryz.prog ops Q (o :: rest) a w := by
  obtain ⟨ti, hi, hz, hs1, hb1⟩ := info_parts Tryz.infoIns
  refine wpList_plain hg fun K hK' => ?_
  have hr := run_make (P := Tryz.prog) w 35 94 ti _ Tryz.underlying35 hi hz .i64 .i64 (n : Int) (n : Int) (by omega) (by omega) (by rw [hb1]; omega) (by omega)
  unfold Oper.wp
  rw [hs1] at hr
  simp only [Int.toNat_natCast] at hr
  simp [execOp, hop, hl, hc, hr, Result.andThen]
  refine hK' _ _ (hK _ ?_ (World.grownBy_alloc w _ none))
  have := Blk.new w (madeCells #[.int .u8 0, .int .u8 0, .int .u8 0, .int .u8 0] (n * 4)).toList 94
  rw [Array.toArray_toList] at this
  rw [← insC_zero]
  exact this
theorem wpList_storeIns (hg : o.guard = none) (x y : Operand) (hop : o.op = .store 94 x y) (b k : Nat) (M : List Ins) (i : Ins) (hk : k < M.length) (hx : a.eval x = .pointer (some ⟨b, k * 4, none⟩)) (hy : a.eval y = .agg (icells i).toArray) (hb : Blk w b (insC M))
    (h : ∀ w', Blk w' b (insC (M.set k i)) → w.grownBy w' (some b) → wpList Tryz.prog ops Q rest (a.put o.dst undef) w') : wpList Tryz.prog ops Q (o :: rest) a w := by
  have hl : k * 4 + 4 ≤ (insC M).length := by rw [insC_len]; omega
  have h1 : ∀ v ∈ icells i, v.oneCell' = true := fun v hv => by
    simp only [icells, List.mem_cons, List.not_mem_nil, or_false] at hv
    rcases hv with rfl | rfl | rfl | rfl <;> rfl
  refine wpList_store_mid hg 94 x y hop b (k * 4) (icells i).toArray hx hy (hb.there _ _ hl) (by kernel_rfl) (all_oneCell_toArray h1) ?_
  refine h _ ?_ (by simpa using grown_setCells b (icells i) (k * 4) w)
  have := hb.setCells (icells i) (k * 4) hl
  rw [show (icells i).length = 4 from rfl, insC_set M k hk i] at this
  exact this
end
def DecV (l : List UInt8) (v v2 : Value) (w : World) : Prop :=
  (l.length % 4 ≠ 0 ∧ v = .slice none 0 0 ∧ ∃ g, v2 = flt g ∧ Box w g [.int .i64 2, .int .i64 (l.length / 4 : Nat), .nilIface]) ∨
  (l.length % 4 = 0 ∧ check (insOf l) = none ∧ v2 = .nilIface ∧ ∃ A c, v = .slice A (insOf l).length c ∧ RIn w w.heap.size A (insOf l)) ∨
  (l.length % 4 = 0 ∧ ∃ c k : Nat, check (insOf l) = some (c, k) ∧ v = .slice none 0 0 ∧ ∃ g g2, v2 = flt g2 ∧ Box w g2 [.int .i64 c, .int .i64 ((4 * k : Nat) : Int), flt g] ∧ Box w g [.int .i64 c, .int .i64 k, .nilIface])
def RetDec (w : World) (l : List UInt8) (e : Ending) (w' : World) : Prop := (∃ v v2, e = .returned (.tuple #[v, v2]) ∧ DecV l v v2 w') ∧ Below w.heap.size w w'
def DcRel (w0 : World) (l : List UInt8) (n4 B : Nat) (s22 : Value) (w : World) : Prop :=
  ∃ (i : Nat) (M : List Ins), i ≤ n4 ∧ s22 = .int .i64 (i : Int) ∧ Blk w B (insC M) ∧ M.length = n4 ∧ M.take i = (insOf l).take i ∧ Below w0.heap.size w0 w
theorem take_set_succ {M L : List Ins} {i : Nat} (h : M.take i = L.take i) (hM : i < M.length) (hL : i < L.length) : (M.set i L[i]).take (i + 1) = L.take (i + 1) := by
  rw [List.take_succ_eq_append_getElem (by simpa using hM), List.getElem_set_self, List.take_set_of_le (Nat.le_refl _), h, List.take_succ_eq_append_getElem hL]
theorem faultAt_lt : ∀ (n : Nat) (l : List Ins) (i : Nat) (f : Nat × Nat), faultAt n l i = some f → f.2 < i + l.length ∧ 1 ≤ f.1
  | _, [], _, _, h => by cases h
  | n, x :: l, i, f, h => by
    unfold faultAt at h
    split at h
    · injection h with h; subst h; exact ⟨by simp, by omega⟩
    split at h
    · injection h with h; subst h; exact ⟨by simp, by omega⟩
    · have := faultAt_lt n l (i + 1) f h
      exact ⟨by simp; omega, this.2⟩
theorem check_lt {l : List Ins} {c k : Nat} (h : check l = some (c, k)) : k ≤ l.length ∧ 1 ≤ c := by
  unfold check at h
  split at h
  · injection h with h; injection h with h1 h2; omega
  · split at h
    · rename_i f hf
      injection h with h
      have := faultAt_lt _ _ _ _ hf
      rw [h] at this
      simp at this; omega
    · split at h
      · injection h with h; injection h with h1 h2; omega
      · cases h
set_option maxRecDepth 100000 in
set_option maxHeartbeats 2000000 in
theorem Decode_calls (w : World) (Ab : Option Addr) (c : Nat) (l : List UInt8) (h : RB w w.heap.size Ab l) (hlc : l.length ≤ c) (h8 : l.length ≤ 1000000) (hg : Hdl w) : Calls Tryz.prog 17 #[.slice Ab l.length c] w (RetDec w l) := by
  have HRB := Lib.hid h
  have HG := Lib.hid hg
  obtain ⟨n, hn⟩ : ∃ n, n = l.length := ⟨_, rfl⟩
  have HN := Lib.hid hn
  have HLC := Lib.hid hlc
  rw [← hn] at h8 ⊢
  clear h hn hg hlc
  obtain ⟨n4, hn4⟩ : ∃ n4, n4 = n / 4 := ⟨_, rfl⟩
  by_cases hm : n % 4 = 0
  · have HM4 : Hid (n = 4 * n4) := Lib.hid (by omega)
    have hn46 : n4 ≤ 1000000 := by omega
    have HN4 : Hid ((insOf l).length = n4) := Lib.hid (by rw [insOf_len, ← HN.out, hn4])
    have eq1 : ((n : Int) % 4 != 0) = false := by simp; omega
    have eq2 : (n : Int) / 4 = (n4 : Int) := by omega
    clear hn4 hm
    go_enter Tryz.func17, Tryz.ntmps17
    go_wp2_with ((with_reducible show wpList _ _ _ (Oper.mk _ (Op.makeSlice _ _ _) _ _ _ _ :: _) _ _); refine wpList_make_ins rfl _ _ rfl n4 hn46 (by rfl) (by rfl) ?_)
    obtain ⟨B4, hB4⟩ : ∃ B4, B4 = w.heap.size := ⟨_, rfl⟩
    rw [← hB4]
    intro w1 hb1 hg1
    have HE4 := Lib.hid hB4
    have HBEL1 : Hid (Below w.heap.size w w1) := Lib.hid (by first | exact gbelow hg1 | exact below_of_grown hg1)
    have HB1 := Lib.hid hb1
    clear hb1 hg1 hB4
    go_wp2_with fail
    go_loopw [22] (fun s22 wr => DcRel w l n4 B4 s22 wr) (fun s22 _ => n4 - (intOf s22).toNat)
    case atStart => exact ⟨0, List.replicate n4 zI, Nat.zero_le _, rfl, HB1.out, by simp, by simp, HBEL1.out⟩
    case round =>
      obtain ⟨i, M, hi, rfl, hblk, hml, hmt, hbel⟩ := hrel
      have HI := Lib.hid hi
      have HBLK := Lib.hid hblk
      have HML := Lib.hid hml
      have HMT := Lib.hid hmt
      have HBEL := Lib.hid hbel
      clear hi hblk hml hmt hbel HB1 HBEL1
      by_cases hlt : i < n4
      · have hlt2 : (i : Int) < n4 := by omega
        obtain ⟨kk, hkk⟩ : ∃ kk, kk = 4 * i := ⟨_, rfl⟩
        have HKK := Lib.hid hkk
        have hkn : Hid (kk + 4 ≤ n) := Lib.hid (by have := HM4.out; omega)
        have eqk : (4 : Int) * (i : Int) = (kk : Int) := by omega
        have HLT := Lib.hid hlt
        clear hkk hlt
        have RBW : Hid (RB wr w.heap.size Ab l) := Lib.hid (HRB.out.below HBEL.out)
        go_wp2_with ((with_reducible show wpList _ _ _ (Oper.mk _ (Op.slice _ _ _ _ _) _ _ _ _ :: _) _ _); (refine wpList_cut _ (Or.inl rfl) _ _ _ rfl w.heap.size Ab n c l HN.out rfl RBW.out HLC.out kk n (Or.inr rfl) (Or.inl ⟨rfl, rfl⟩) (by have := hkn.out; omega) (Nat.le_refl _) ?_))
        intro A6 m6 L6 hL6 hm6 hm6' hr6
        rw [← hm6']
        clear hm6'
        have hl6 : L6.length = m6 := by rw [hL6.out, hm6.out]; simp; have := HN.out; omega
        have HL6 := Lib.hid hl6
        have hm4 : 4 ≤ m6 := by rw [hm6.out]; have := hkn.out; omega
        obtain ⟨b, o, hA, hb, hc0⟩ := hr6.get (k := 0) (by omega)
        subst hA
        have hcell : ∀ j (hj : j < L6.length), wr.cell? ⟨b, o + j, none⟩ = some (.int .u8 ((L6[j]).toNat : Int)) := fun j hj => by
          obtain ⟨b', o', hA', _, hc'⟩ := hr6.get hj
          injection hA' with hA'
          injection hA' with e1 e2
          rw [e1, e2]; exact hc'
        obtain ⟨x0, hx0⟩ : ∃ x0, x0 = (L6[0]'(by omega)).toNat := ⟨_, rfl⟩
        obtain ⟨x1, hx1⟩ : ∃ x1, x1 = (L6[1]'(by omega)).toNat := ⟨_, rfl⟩
        obtain ⟨x2, hx2⟩ : ∃ x2, x2 = (L6[2]'(by omega)).toNat := ⟨_, rfl⟩
        obtain ⟨x3, hx3⟩ : ∃ x3, x3 = (L6[3]'(by omega)).toNat := ⟨_, rfl⟩
        have h6g : ∀ j, j < 4 → l.getD (kk + j) 0 = L6.getD j 0 := fun j hj => by
          rw [hL6.out]
          have h1 : kk + j < l.length := by have := hkn.out; have := HN.out; omega
          simp [List.getD, List.getElem?_drop, List.getElem?_take, h1]
          rw [if_pos (by have := hkn.out; omega)]; rfl
        have HX : Hid (insAt l i = ⟨x0, x1, x2, x3⟩) := Lib.hid (by
          unfold insAt
          have h60 := h6g 0 (by omega)
          rw [Nat.add_zero] at h60
          rw [← HKK.out, h60, h6g 1 (by omega), h6g 2 (by omega), h6g 3 (by omega), hx0, hx1, hx2, hx3]
          simp [List.getD, (show 0 < L6.length by omega), (show 1 < L6.length by omega), (show 2 < L6.length by omega), (show 3 < L6.length by omega)])
        have MC : Hid (∀ (w' : World), w' = wr.drew → w'.cell? ⟨b, o, none⟩ = some (.int .u8 (x0 : Int)) ∧ w'.cell? ⟨b, o + 1, none⟩ = some (.int .u8 (x1 : Int)) ∧ w'.cell? ⟨b, o + 2, none⟩ = some (.int .u8 (x2 : Int)) ∧ w'.cell? ⟨b, o + 3, none⟩ = some (.int .u8 (x3 : Int))) := Lib.hid fun w' hj => by
          subst hj
          rw [hx0, hx1, hx2, hx3]
          exact ⟨hcell 0 _, hcell 1 _, hcell 2 _, hcell 3 _⟩
        have H4 := Lib.hid hm4
        obtain ⟨c6, hc6⟩ : ∃ c6, c6 = c - kk := ⟨_, rfl⟩
        rw [← hc6]
        clear hc6 hcell hx0 hx1 hx2 hx3 h6g hl6 hm6 hL6 hr6 hb hc0 hm4 HL6
        go_wp2_with fail
        refine region_tail 16 [.slice (some ⟨B4, 0, none⟩) n4 n4, .int .i64 (i : Int), .slice (some ⟨b, o, none⟩) m6 c6, .pointer (some ⟨b, o, none⟩), .int .u8 (x0 : Int), .slice (some ⟨b, o, none⟩) m6 c6, .pointer (some ⟨b, o + 1, none⟩), .int .u8 (x1 : Int), .slice (some ⟨b, o, none⟩) m6 c6, .pointer (some ⟨b, o + 2, none⟩), .int .u8 (x2 : Int), .slice (some ⟨b, o, none⟩) m6 c6, .pointer (some ⟨b, o + 3, none⟩), .int .u8 (x3 : Int), .agg #[.int .u8 (x0 : Int), .int .u8 (x1 : Int), .int .u8 (x2 : Int), .int .u8 (x3 : Int)], .pointer (some ⟨B4, i * 4, none⟩)] [some 29, some 30, some 31, some 32, some 33, some 34, some 35, some 36, some 37, some 38, some 39, some 40, some 41, some 42, some 43, some 44] (fun _ w' => w' = wr.drew) (by kernel_rfl) (by kernel_rfl) (by kernel_rfl) (by kernel_rfl) rfl rfl rfl (fun ii hii => ?_) ?_
        · match ii, hii with
          | 0, _ => exact vstep_first rfl (vwant_none rfl) (fun _ _ h => h) 4 (Or.inl rfl) (by kernel_rfl) rfl
          | 1, _ => exact vstep_first rfl (vwant_none rfl) (fun _ _ h => h) 5 (Or.inl rfl) (by kernel_rfl) rfl
          | 2, _ => exact vstep_first rfl (vwant_none rfl) (fun _ _ h => h) 6 (Or.inl rfl) (by kernel_rfl) rfl
          | 3, _ => exact vstep_pure rfl (vwant_none rfl) (fun _ _ h => h) (fun LL aa ww cc => ⟨.pointer (some ⟨b, o, none⟩), by have e0 : aa.tmps.getD 31 undef = .slice (some ⟨b, o, none⟩) m6 c6 := cc.slot 2 31 (by kernel_rfl) rfl; have q1 : ¬ m6 = 0 := (by have := H4.out; omega); simp only [execOp, Act.eval]; go_simp, rfl⟩)
          | 4, _ => exact vstep_pure rfl (vwant_none rfl) (fun _ _ h => h) (fun LL aa ww cc => ⟨.int .u8 (x0 : Int), by have e0 : aa.tmps.getD 32 undef = .pointer (some ⟨b, o, none⟩) := cc.slot 3 32 (by kernel_rfl) rfl; obtain ⟨m0, m1, m2, m3⟩ := MC.out _ cc.world; simp only [execOp, Act.eval]; go_simp, rfl⟩)
          | 5, _ => exact vstep_first rfl (vwant_none rfl) (fun _ _ h => h) 6 (Or.inl rfl) (by kernel_rfl) rfl
          | 6, _ => exact vstep_pure rfl (vwant_none rfl) (fun _ _ h => h) (fun LL aa ww cc => ⟨.pointer (some ⟨b, o + 1, none⟩), by have e0 : aa.tmps.getD 34 undef = .slice (some ⟨b, o, none⟩) m6 c6 := cc.slot 5 34 (by kernel_rfl) rfl; have q1 : (1 : Int) < m6 := (by have := H4.out; omega); simp only [execOp, Act.eval]; go_simp, rfl⟩)
          | 7, _ => exact vstep_pure rfl (vwant_none rfl) (fun _ _ h => h) (fun LL aa ww cc => ⟨.int .u8 (x1 : Int), by have e0 : aa.tmps.getD 35 undef = .pointer (some ⟨b, o + 1, none⟩) := cc.slot 6 35 (by kernel_rfl) rfl; obtain ⟨m0, m1, m2, m3⟩ := MC.out _ cc.world; simp only [execOp, Act.eval]; go_simp, rfl⟩)
          | 8, _ => exact vstep_first rfl (vwant_none rfl) (fun _ _ h => h) 6 (Or.inl rfl) (by kernel_rfl) rfl
          | 9, _ => exact vstep_pure rfl (vwant_none rfl) (fun _ _ h => h) (fun LL aa ww cc => ⟨.pointer (some ⟨b, o + 2, none⟩), by have e0 : aa.tmps.getD 37 undef = .slice (some ⟨b, o, none⟩) m6 c6 := cc.slot 8 37 (by kernel_rfl) rfl; have q1 : (2 : Int) < m6 := (by have := H4.out; omega); simp only [execOp, Act.eval]; go_simp, rfl⟩)
          | 10, _ => exact vstep_pure rfl (vwant_none rfl) (fun _ _ h => h) (fun LL aa ww cc => ⟨.int .u8 (x2 : Int), by have e0 : aa.tmps.getD 38 undef = .pointer (some ⟨b, o + 2, none⟩) := cc.slot 9 38 (by kernel_rfl) rfl; obtain ⟨m0, m1, m2, m3⟩ := MC.out _ cc.world; simp only [execOp, Act.eval]; go_simp, rfl⟩)
          | 11, _ => exact vstep_first rfl (vwant_none rfl) (fun _ _ h => h) 6 (Or.inl rfl) (by kernel_rfl) rfl
          | 12, _ => exact vstep_pure rfl (vwant_none rfl) (fun _ _ h => h) (fun LL aa ww cc => ⟨.pointer (some ⟨b, o + 3, none⟩), by have e0 : aa.tmps.getD 40 undef = .slice (some ⟨b, o, none⟩) m6 c6 := cc.slot 11 40 (by kernel_rfl) rfl; have q1 : (3 : Int) < m6 := (by have := H4.out; omega); simp only [execOp, Act.eval]; go_simp, rfl⟩)
          | 13, _ => exact vstep_pure rfl (vwant_none rfl) (fun _ _ h => h) (fun LL aa ww cc => ⟨.int .u8 (x3 : Int), by have e0 : aa.tmps.getD 41 undef = .pointer (some ⟨b, o + 3, none⟩) := cc.slot 12 41 (by kernel_rfl) rfl; obtain ⟨m0, m1, m2, m3⟩ := MC.out _ cc.world; simp only [execOp, Act.eval]; go_simp, rfl⟩)
          | 14, _ => exact vstep_build rfl (vwant_none rfl) (fun _ _ h => h) _ _ rfl #[(0, .int .u8 (x0 : Int)), (1, .int .u8 (x1 : Int)), (2, .int .u8 (x2 : Int)), (3, .int .u8 (x3 : Int))] #[.int .u8 (x0 : Int), .int .u8 (x1 : Int), .int .u8 (x2 : Int), .int .u8 (x3 : Int)] (fun LL aa ww cc => by have e0 : aa.eval (.tmp 33) = .int .u8 (x0 : Int) := cc.slot 4 33 (by kernel_rfl) rfl; have e1 : aa.eval (.tmp 36) = .int .u8 (x1 : Int) := cc.slot 7 36 (by kernel_rfl) rfl; have e2 : aa.eval (.tmp 39) = .int .u8 (x2 : Int) := cc.slot 10 39 (by kernel_rfl) rfl; have e3 : aa.eval (.tmp 42) = .int .u8 (x3 : Int) := cc.slot 13 42 (by kernel_rfl) rfl; simp only [List.map_toArray, List.map_cons, List.map_nil, e0, e1, e2, e3]) (by kernel_rfl) rfl
          | 15, _ => exact vstep_pure rfl (vwant_none rfl) (fun _ _ h => h) (fun LL aa ww cc => ⟨.pointer (some ⟨B4, i * 4, none⟩), by have e0 : aa.tmps.getD 29 undef = .slice (some ⟨B4, 0, none⟩) n4 n4 := cc.slot 0 29 (by kernel_rfl) rfl; have e1 : aa.tmps.getD 30 undef = .int .i64 (i : Int) := cc.slot 1 30 (by kernel_rfl) rfl; have q1 : (i : Int) < n4 := (by have := HLT.out; omega); simp only [execOp, Act.eval]; go_simp, rfl⟩)
          | n + 16, h => exact absurd h (by show ¬ (n + 16 < 16); omega)
        · intro L5 w5 hall hJ
          obtain rfl := hJ
          clear MC hall
          simp only [List.zip_cons_cons, List.zip_nil_right, putsL]
          go_simp
          have HBD : Hid (Blk wr.drew B4 (insC M)) := Lib.hid HBLK.out.drew
          have hiM : i < M.length := by rw [HML.out]; exact HLT.out
          go_wp2_with ((with_reducible show wpList _ _ _ (Oper.mk _ (Op.store _ _ _) _ _ _ _ :: _) _ _); refine wpList_storeIns rfl _ _ rfl B4 i M ⟨x0, x1, x2, x3⟩ hiM rfl rfl HBD.out ?_)
          intro w6 hb6 hg6
          have HF : Hid (DcRel w l n4 B4 (.int .i64 ((i + 1 : Nat) : Int)) w6) := Lib.hid (by
            have hil : i < (insOf l).length := by rw [HN4.out]; exact HLT.out
            have hins : (insOf l)[i] = ⟨x0, x1, x2, x3⟩ := by rw [← HX.out]; simp [insOf]
            refine ⟨i + 1, M.set i ⟨x0, x1, x2, x3⟩, HLT.out, rfl, hb6, by rw [List.length_set]; exact HML.out, ?_, ?_⟩
            · rw [← hins]; exact take_set_succ HMT.out hiM hil
            · refine HBEL.out.drew.grown hg6 (HBEL.out.drew.size) (fun j e => ?_)
              injection e with e
              rw [← e, HE4.out]; exact Nat.le_refl _)
          clear hb6 hg6 HBD hiM HBLK HBEL HMT HML HX
          go_wp2
          go_roundw
          case rel => first | exact HF.out | (have e5 : ((i : Int) + 1) = ((i + 1 : Nat) : Int) := by omega
                                              rw [e5]; exact HF.out)
          case measure => simp [intOf]; omega
      · have hlt2 : ¬ (i : Int) < n4 := by omega
        have hMe : M = insOf l := by
          have h := HMT.out
          have hi := HI.out
          have hin : i = n4 := by omega
          rwa [hin, List.take_of_length_le (by rw [HML.out]; exact Nat.le_refl _), List.take_of_length_le (by rw [HN4.out]; exact Nat.le_refl _)] at h
        subst hMe
        have HR4 : Hid (RIn wr wr.heap.size (some ⟨B4, 0, none⟩) (insOf l)) := Lib.hid (rin_blk HBLK.out (insOf_fits l))
        have HCK : Hid (Calls Tryz.prog 7 #[.slice (some ⟨B4, 0, none⟩) n4 n4] wr (RetErr wr (check (insOf l)))) := Lib.hid (by
          have := check_calls wr (some ⟨B4, 0, none⟩) n4 (insOf l) HR4.out (by rw [HN4.out]; omega)
          rwa [HN4.out] at this)
        have HGW : Hid (Hdl wr) := Lib.hid (HG.out.below HBEL.out HG.out.lt)
        clear HBLK HML HMT HI hlt2
        go_wp2_with fail
        refine HCK.out.mono ?_
        rintro e w2 ⟨⟨v, rfl, hv⟩, hb2⟩
        have HB2 : Hid (Below w.heap.size w w2) := Lib.hid (HBEL.out.trans (hb2.mono HBEL.out.size))
        have HR5 : Hid (RIn w2 w2.heap.size (some ⟨B4, 0, none⟩) (insOf l)) := Lib.hid ((HR4.out.below hb2).mono hb2.size)
        have HGW2 : Hid (Hdl w2) := Lib.hid (HGW.out.below hb2 HGW.out.lt)
        clear hb2 HCK HR4 HGW HBEL
        obtain ⟨R, hR⟩ : ∃ R, R = check (insOf l) := ⟨_, rfl⟩
        rw [← hR] at hv
        cases R with
        | none =>
          obtain rfl := (show v = .nilIface from hv)
          have HC := Lib.hid hR
          clear hR hv
          go_wp2
          go_ret2
          exact ⟨⟨.slice (some ⟨B4, 0, none⟩) n4 n4, .nilIface, rfl, .inr (.inl ⟨by have := HM4.out; rw [← HN.out]; omega, HC.out.symm, rfl, some ⟨B4, 0, none⟩, n4, by rw [HN4.out], HR5.out⟩)⟩, HB2.out⟩
        | some ck =>
        obtain ⟨cc, k⟩ := ck
        obtain ⟨g, rfl, hg⟩ := (show ∃ g, v = .iface 131 (.pointer (some ⟨g, 0, none⟩)) ∧ Box w2 g [.int .i64 cc, .int .i64 k, .nilIface] from hv)
        have HC := Lib.hid hR
        have HBX := Lib.hid hg
        have HKL : Hid (k ≤ 1000000) := Lib.hid (by have := (check_lt hR.symm).1; rw [HN4.out] at this; omega)
        clear hR hv hg
        go_wp2_with fail
        refine (path_hit w2 g cc k HGW2.out HBX.out).mono ?_
        rintro e w3 ⟨gp, cp, rfl, hcp, hgp, hb3⟩
        have HB3 : Hid (Below w.heap.size w w3) := Lib.hid (HB2.out.trans (hb3.mono HB2.out.size))
        have HBX3 : Hid (Box w3 g [.int .i64 cc, .int .i64 k, .nilIface]) := Lib.hid (HBX.out.below hb3 HBX.out.lt)
        have HGW3 : Hid (Hdl w3) := Lib.hid (HGW2.out.below hb3 HGW2.out.lt)
        have eqk : wrap64 ((4 * k : Nat) : Int) = ((4 * k : Nat) : Int) := by have := HKL.out; unfold wrap64; omega
        have eqk2 : (4 : Int) * (k : Int) = ((4 * k : Nat) : Int) := by omega
        obtain ⟨k4, hk4⟩ : ∃ k4, k4 = 4 * k := ⟨_, rfl⟩
        have HK4 := Lib.hid hk4
        rw [← hk4] at eqk eqk2
        clear hb3 HB2 HBX HGW2 hk4 hgp
        go_wp2_with fail
        refine (In_calls w3 g cc k k4 HGW3.out HBX3.out).mono ?_
        rintro e w4 ⟨g2, rfl, hx1, hx2, hb4⟩
        have HB4 : Hid (Below w.heap.size w w4) := Lib.hid (HB3.out.trans (hb4.mono HB3.out.size))
        have HX1 := Lib.hid hx1
        have HX2 := Lib.hid hx2
        clear hb4 HB3 hx1 hx2 hcp
        go_wp2
        go_ret2
        exact ⟨⟨_, _, rfl, .inr (.inr ⟨by have := HM4.out; rw [← HN.out]; omega, cc, k, HC.out.symm, rfl, g, g2, rfl, by rw [← HK4.out]; exact HX1.out, HX2.out⟩)⟩, HB4.out⟩
  · have HE : Hid (n % 4 ≠ 0) := Lib.hid hm
    have eq1 : ((n : Int) % 4 != 0) = true := by simp; omega
    have eq2 : (n : Int) / 4 = (n4 : Int) := by omega
    have HN4' := Lib.hid hn4
    clear hm hn4
    go_enter Tryz.func17, Tryz.ntmps17
    go_wp2_with fail
    refine (fault_new w 2 n4 (by omega)).mono ?_
    rintro e w2 ⟨⟨v, rfl, g, rfl, hx⟩, hb2⟩
    have HX := Lib.hid hx
    have HB2 := Lib.hid hb2
    clear hx hb2
    go_wp2
    go_ret2
    exact ⟨⟨_, _, rfl, .inl ⟨by rw [← HN.out]; exact HE.out, rfl, g, rfl, by rw [← HN.out, ← HN4'.out]; exact HX.out⟩⟩, HB2.out⟩
end Go.Proofs.YtjfpoahmjgeogaaGreatDoor
