/- A set of processes in memory: a resource's queue and its items, anew; append to a row. -/
import Derived.Test.YtgeffkdobnipgaaProcMem
namespace Go.Proofs.Ytgeffkdobnipgaa
open Go.RowKit Nac Nac.Procs
section
variable {w w' w2 : World} {S : Nat} {P : PSet} {A A' A2 : Nat → Option Addr} {c c' : Nat → Nat}
/-- a resource's queue, anew -/
theorem SetM.putQ (h : SetM w S P A c) {r : Nat} (hr : r < P.rs.length) {A2 : Option Addr} {c2 : Nat} {L : List Nat} (hrow : Row w' 3 1 A2 c2 L.length (nums L)) (hg : w.grownBy w' ((A (3 + 2 * r)).map (·.block))) (hb : NewB w (A (3 + 2 * r)) A2) {g : Nat} (hA : A 1 = some ⟨g, 0, none⟩) :
    SetM (w'.setCell ⟨g, r * 5 + 3, none⟩ (.slice A2 L.length c2)) S (P.setR r { P.rsc r with q := L }) (upA A (3 + 2 * r) A2) (upC c (3 + 2 * r) c2) ∧ FrS S A w (upA A (3 + 2 * r) A2) (w'.setCell ⟨g, r * 5 + 3, none⟩ (.slice A2 L.length c2)) := by
  have hgA : (A 1).map (·.block) = some g := by rw [hA]; rfl
  have hSg : g ≠ S := fun e => h.aps 1 (by rw [hgA, e])
  have hl : (P.rs.set r { P.rsc r with q := L }).length = P.rs.length := List.length_set ..
  have hSb : ∀ j, j ≠ 3 + 2 * r → (A j).map (·.block) = none ∨ (A j).map (·.block) ≠ (A (3 + 2 * r)).map (·.block) := fun j hj => by
    cases hx : (A j).map (·.block) with
    | none => exact .inl rfl
    | some g => exact .inr fun e => h.ap j (3 + 2 * r) g hj hx e.symm
  have hS2 : (A (3 + 2 * r)).map (·.block) ≠ some S := h.aps _
  have hg2 : (A (3 + 2 * r)).map (·.block) ≠ some g := h.ap 1 _ g (by omega) hgA
  have hk : ∀ (j : Nat) {e size n xs}, j ≠ 3 + 2 * r → j ≠ 1 → Row w e size (A j) (c j) n xs → Row (w'.setCell ⟨g, r * 5 + 3, none⟩ (.slice A2 L.length c2)) e size (A j) (c j) n xs := fun j {e size n xs} hj h1 hx =>
    (hx.kept hg (hSb j hj)).other (h.ap 1 j g (fun e => h1 e.symm) hgA) _
  have hgdi : ∀ i, ((P.rs.set r { P.rsc r with q := L }).getD i default).items = (P.rsc i).items := fun i => by
    by_cases e : i = r
    · subst e
      have : (P.rs.set i { P.rsc i with q := L }).getD i default = { P.rsc i with q := L } := by simp [List.getD, hr]
      rw [this]
    · have : (P.rs.set r { P.rsc r with q := L }).getD i default = P.rsc i := by simp [List.getD, PSet.rsc, List.getElem?_set_ne (Ne.symm e)]
      rw [this]
  have hgdq : ∀ i, i ≠ r → ((P.rs.set r { P.rsc r with q := L }).getD i default).q = (P.rsc i).q := fun i e => by
    have : (P.rs.set r { P.rsc r with q := L }).getD i default = P.rsc i := by simp [List.getD, PSet.rsc, List.getElem?_set_ne (Ne.symm e)]
    rw [this]
  have hgdr : (P.rs.set r { P.rsc r with q := L }).getD r default = { P.rsc r with q := L } := by simp [List.getD, hr]
  refine ⟨⟨?_, ?_, ?_, ?_, ?_, ?_, h.ap_up hb, h.aps_up hb, fun j hj => h.far_up (by omega) j (by rw [← hl]; exact hj)⟩, ?_⟩
  · rw [upA_ne A A2 (by omega), upA_ne A A2 (by omega), upA_ne A A2 (by omega), upC_ne c c2 (by omega), upC_ne c c2 (by omega), upC_ne c c2 (by omega)]
    show Blk _ S [_, .slice (A 1) (P.rs.set r { P.rsc r with q := L }).length (c 1), _]
    rw [hl]
    exact (h.blk.grown hg hS2).grown (grown_setCell w' ⟨g, r * 5 + 3, none⟩ _) (fun e => by injection e with e; exact hSg e)
  · rw [upA_ne A A2 (by omega), upC_ne c c2 (by omega)]; exact hk 0 (by omega) (by decide) h.po
  · rw [upA_ne A A2 (by omega), upC_ne c c2 (by omega)]
    show Row _ _ 5 (A 1) (c 1) (P.rs.set r { P.rsc r with q := L }).length (rrows (P.rs.set r { P.rsc r with q := L }) (upA A (3 + 2 * r) A2) (upC c (3 + 2 * r) c2)).flatten
    have hrl : r < (rrows P.rs A c).length := by simpa [rrows] using hr
    have hro := h.ro.kept hg (hSb 1 (by omega))
    rw [hA] at hro ⊢
    have := hro.set (r * 5 + 3) (.slice A2 L.length c2)
    rw [flat_set (rr_len P.rs A c) hrl (by omega) _, rr_get P.rs A c hrl] at this
    have e3 : rrows (P.rs.set r { P.rsc r with q := L }) (upA A (3 + 2 * r) A2) (upC c (3 + 2 * r) c2) = (rrows P.rs A c).set r ((rcells (P.rs.getD r default) (A (3 + 2 * r)) (c (3 + 2 * r)) (A (4 + 2 * r)) (c (4 + 2 * r))).set 3 (.slice A2 L.length c2)) := by
      unfold rrows
      rw [hl]
      refine List.ext_getElem (by simp) fun i h1 h2 => ?_
      by_cases e : i = r
      · subst e
        rw [List.getElem_set_self, List.getElem_map, List.getElem_range, hgdr, upA_same, upC_same, upA_ne A A2 (by omega), upC_ne c c2 (by omega)]
        rfl
      · rw [List.getElem_set_ne (fun e' => e e'.symm)]
        simp only [List.getElem_map, List.getElem_range]
        rw [upA_ne A A2 (by omega), upC_ne c c2 (by omega), upA_ne A A2 (by omega), upC_ne c c2 (by omega)]
        simp [List.getD, List.getElem?_set_ne (Ne.symm e)]
    rw [e3, hl]
    exact this
  · rw [upA_ne A A2 (by omega), upC_ne c c2 (by omega)]; exact hk 2 (by omega) (by decide) h.rd
  · intro i hi
    have hi : i < P.rs.length := by rw [← hl]; exact hi
    by_cases e : i = r
    · subst e
      rw [upA_same, upC_same]
      show Row _ _ 1 _ _ ((P.rs.set i { P.rsc i with q := L }).getD i default).q.length (nums ((P.rs.set i { P.rsc i with q := L }).getD i default).q)
      rw [hgdr]
      refine hrow.other ?_ _
      rcases hb with e | e
      · rw [e]; exact hg2
      · intro hx; have := e g hx; have := h.lt 1 g hgA; omega
    · rw [upA_ne A A2 (by omega), upC_ne c c2 (by omega)]
      show Row _ _ 1 _ _ ((P.rs.set r { P.rsc r with q := L }).getD i default).q.length (nums ((P.rs.set r { P.rsc r with q := L }).getD i default).q)
      rw [hgdq i e]
      exact hk _ (by omega) (by omega) (h.qo i hi)
  · intro i hi
    have hi : i < P.rs.length := by rw [← hl]; exact hi
    rw [upA_ne A A2 (by omega), upC_ne c c2 (by omega)]
    show Row _ _ 1 _ _ ((P.rs.set r { P.rsc r with q := L }).getD i default).items.length (((P.rs.set r { P.rsc r with q := L }).getD i default).items.map (Value.int .i64))
    rw [hgdi i]
    exact hk _ (by omega) (by omega) (h.io i hi)
  · have f1 : FrS S A w A w' := FrS.grown hg fun k e => .inl (.inr ⟨_, e⟩)
    have f2 : FrS S A w' A (w'.setCell ⟨g, r * 5 + 3, none⟩ (.slice A2 L.length c2)) := FrS.grown (grown_setCell _ _ _) fun k e => .inl (.inr ⟨1, by injection e with e; rw [hgA]; exact congrArg some e⟩)
    have f := f1.trans f2
    exact ⟨f.os, f.tape, f.output, f.size, f.block, fun k hk => foot_up hb k hk, upA_ne A A2 (by omega), upA_ne A A2 (by omega)⟩
/-- a resource's items, anew -/
theorem SetM.putI (h : SetM w S P A c) {r : Nat} (hr : r < P.rs.length) {A2 : Option Addr} {c2 : Nat} {L : List Int} (hrow : Row w' 2 1 A2 c2 L.length (L.map (Value.int .i64))) (hg : w.grownBy w' ((A (4 + 2 * r)).map (·.block))) (hb : NewB w (A (4 + 2 * r)) A2) {g : Nat} (hA : A 1 = some ⟨g, 0, none⟩) :
    SetM (w'.setCell ⟨g, r * 5 + 4, none⟩ (.slice A2 L.length c2)) S (P.setR r { P.rsc r with items := L }) (upA A (4 + 2 * r) A2) (upC c (4 + 2 * r) c2) ∧ FrS S A w (upA A (4 + 2 * r) A2) (w'.setCell ⟨g, r * 5 + 4, none⟩ (.slice A2 L.length c2)) := by
  have hgA : (A 1).map (·.block) = some g := by rw [hA]; rfl
  have hSg : g ≠ S := fun e => h.aps 1 (by rw [hgA, e])
  have hl : (P.rs.set r { P.rsc r with items := L }).length = P.rs.length := List.length_set ..
  have hSb : ∀ j, j ≠ 4 + 2 * r → (A j).map (·.block) = none ∨ (A j).map (·.block) ≠ (A (4 + 2 * r)).map (·.block) := fun j hj => by
    cases hx : (A j).map (·.block) with
    | none => exact .inl rfl
    | some g => exact .inr fun e => h.ap j (4 + 2 * r) g hj hx e.symm
  have hS2 : (A (4 + 2 * r)).map (·.block) ≠ some S := h.aps _
  have hg2 : (A (4 + 2 * r)).map (·.block) ≠ some g := h.ap 1 _ g (by omega) hgA
  have hk : ∀ (j : Nat) {e size n xs}, j ≠ 4 + 2 * r → j ≠ 1 → Row w e size (A j) (c j) n xs → Row (w'.setCell ⟨g, r * 5 + 4, none⟩ (.slice A2 L.length c2)) e size (A j) (c j) n xs := fun j {e size n xs} hj h1 hx =>
    (hx.kept hg (hSb j hj)).other (h.ap 1 j g (fun e => h1 e.symm) hgA) _
  have hgdq : ∀ i, ((P.rs.set r { P.rsc r with items := L }).getD i default).q = (P.rsc i).q := fun i => by
    by_cases e : i = r
    · subst e
      have : (P.rs.set i { P.rsc i with items := L }).getD i default = { P.rsc i with items := L } := by simp [List.getD, hr]
      rw [this]
    · have : (P.rs.set r { P.rsc r with items := L }).getD i default = P.rsc i := by simp [List.getD, PSet.rsc, List.getElem?_set_ne (Ne.symm e)]
      rw [this]
  have hgdi : ∀ i, i ≠ r → ((P.rs.set r { P.rsc r with items := L }).getD i default).items = (P.rsc i).items := fun i e => by
    have : (P.rs.set r { P.rsc r with items := L }).getD i default = P.rsc i := by simp [List.getD, PSet.rsc, List.getElem?_set_ne (Ne.symm e)]
    rw [this]
  have hgdr : (P.rs.set r { P.rsc r with items := L }).getD r default = { P.rsc r with items := L } := by simp [List.getD, hr]
  refine ⟨⟨?_, ?_, ?_, ?_, ?_, ?_, h.ap_up hb, h.aps_up hb, fun j hj => h.far_up (by omega) j (by rw [← hl]; exact hj)⟩, ?_⟩
  · rw [upA_ne A A2 (by omega), upA_ne A A2 (by omega), upA_ne A A2 (by omega), upC_ne c c2 (by omega), upC_ne c c2 (by omega), upC_ne c c2 (by omega)]
    show Blk _ S [_, .slice (A 1) (P.rs.set r { P.rsc r with items := L }).length (c 1), _]
    rw [hl]
    exact (h.blk.grown hg hS2).grown (grown_setCell w' ⟨g, r * 5 + 4, none⟩ _) (fun e => by injection e with e; exact hSg e)
  · rw [upA_ne A A2 (by omega), upC_ne c c2 (by omega)]; exact hk 0 (by omega) (by decide) h.po
  · rw [upA_ne A A2 (by omega), upC_ne c c2 (by omega)]
    show Row _ _ 5 (A 1) (c 1) (P.rs.set r { P.rsc r with items := L }).length (rrows (P.rs.set r { P.rsc r with items := L }) (upA A (4 + 2 * r) A2) (upC c (4 + 2 * r) c2)).flatten
    have hrl : r < (rrows P.rs A c).length := by simpa [rrows] using hr
    have hro := h.ro.kept hg (hSb 1 (by omega))
    rw [hA] at hro ⊢
    have := hro.set (r * 5 + 4) (.slice A2 L.length c2)
    rw [flat_set (rr_len P.rs A c) hrl (by omega) _, rr_get P.rs A c hrl] at this
    have e3 : rrows (P.rs.set r { P.rsc r with items := L }) (upA A (4 + 2 * r) A2) (upC c (4 + 2 * r) c2) = (rrows P.rs A c).set r ((rcells (P.rs.getD r default) (A (3 + 2 * r)) (c (3 + 2 * r)) (A (4 + 2 * r)) (c (4 + 2 * r))).set 4 (.slice A2 L.length c2)) := by
      unfold rrows
      rw [hl]
      refine List.ext_getElem (by simp) fun i h1 h2 => ?_
      by_cases e : i = r
      · subst e
        rw [List.getElem_set_self, List.getElem_map, List.getElem_range, hgdr, upA_same, upC_same, upA_ne A A2 (by omega), upC_ne c c2 (by omega)]
        rfl
      · rw [List.getElem_set_ne (fun e' => e e'.symm)]
        simp only [List.getElem_map, List.getElem_range]
        rw [upA_ne A A2 (by omega), upC_ne c c2 (by omega), upA_ne A A2 (by omega), upC_ne c c2 (by omega)]
        simp [List.getD, List.getElem?_set_ne (Ne.symm e)]
    rw [e3, hl]
    exact this
  · rw [upA_ne A A2 (by omega), upC_ne c c2 (by omega)]; exact hk 2 (by omega) (by decide) h.rd
  · intro i hi
    have hi : i < P.rs.length := by rw [← hl]; exact hi
    rw [upA_ne A A2 (by omega), upC_ne c c2 (by omega)]
    show Row _ _ 1 _ _ ((P.rs.set r { P.rsc r with items := L }).getD i default).q.length (nums ((P.rs.set r { P.rsc r with items := L }).getD i default).q)
    rw [hgdq i]
    exact hk _ (by omega) (by omega) (h.qo i hi)
  · intro i hi
    have hi : i < P.rs.length := by rw [← hl]; exact hi
    by_cases e : i = r
    · subst e
      rw [upA_same, upC_same]
      show Row _ _ 1 _ _ ((P.rs.set i { P.rsc i with items := L }).getD i default).items.length (((P.rs.set i { P.rsc i with items := L }).getD i default).items.map (Value.int .i64))
      rw [hgdr]
      refine hrow.other ?_ _
      rcases hb with e | e
      · rw [e]; exact hg2
      · intro hx; have := e g hx; have := h.lt 1 g hgA; omega
    · rw [upA_ne A A2 (by omega), upC_ne c c2 (by omega)]
      show Row _ _ 1 _ _ ((P.rs.set r { P.rsc r with items := L }).getD i default).items.length (((P.rs.set r { P.rsc r with items := L }).getD i default).items.map (Value.int .i64))
      rw [hgdi i e]
      exact hk _ (by omega) (by omega) (h.io i hi)
  · have f1 : FrS S A w A w' := FrS.grown hg fun k e => .inl (.inr ⟨_, e⟩)
    have f2 : FrS S A w' A (w'.setCell ⟨g, r * 5 + 4, none⟩ (.slice A2 L.length c2)) := FrS.grown (grown_setCell _ _ _) fun k e => .inl (.inr ⟨1, by injection e with e; rw [hgA]; exact congrArg some e⟩)
    have f := f1.trans f2
    exact ⟨f.os, f.tape, f.output, f.size, f.block, fun k hk => foot_up hb k hk, upA_ne A A2 (by omega), upA_ne A A2 (by omega)⟩
end
/-- append of one cell onto a row of the call's own -/
theorem wpList_app_row {T E : TypeId} {z : Value} {bytes : Nat} (hT : Try.prog.underlying T = some (.slice E)) (hinfo : (Try.prog.info? E).map (fun i => (i.zero, i.size, i.bytes)) = some (some z, 1, bytes)) (hz1 : z.cells.size = 1) (hby : bytes ≤ 8)
    (w : World) {ops : Array Oper} {rest : List Oper} {o : Oper} {a : Act} {Q : Exit → Act → World → Prop} (hgd : o.guard = none) (s x : Operand)
    (ho : o.op = .call { callee := .builtin .append, args := #[s, x], argTypes := #[T, T] })
    (A : Option Addr) (c n : Nat) (xs : List Value) (hs : a.eval s = .slice A n c) (hown : Row w E 1 A c n xs)
    (g c2 : Nat) (u : Value) (hx : a.eval x = .slice (some ⟨g, 0, none⟩) 1 c2) (hu1 : u.oneCell' = true) (hsrc : w.cell? ⟨g, 0, none⟩ = some u)
    (hlen : n ≤ 1000000)
    (h : ∀ A' c' w', Row w' E 1 A' c' (n + 1) (xs ++ [u]) → w.grownBy w' (A.map (·.block)) → NewB w A A' → wpList Try.prog ops Q rest (a.put o.dst (.slice A' (n + 1) c')) w') : wpList Try.prog ops Q (o :: rest) a w := by
  obtain ⟨i, hi, hz, hs1, hb1⟩ := info_parts hinfo
  have eb : Value.ownBlock (.slice A n c) = A.map (·.block) := by cases A <;> rfl
  have hmul : (n + 1) * bytes ≤ (n + 1) * 8 := Nat.mul_le_mul_left _ hby
  obtain ⟨v', w', hr, h2, h3, _, h5⟩ := run_append_own_at (P := Try.prog) w 0 T o.type E i z 1 bytes hT hi hz hs1 hb1 hz1 (by decide) _ n xs hown ⟨g, 0, none⟩ 1 c2 [u] rfl
    (fun j v hv => by
      have hj : j = 0 := by have := (List.getElem?_eq_some_iff.1 hv).1; simpa using this
      subst hj
      simp at hv
      subst hv
      simpa [Addr.add] using hsrc) (fun v hv => by simp at hv; subst hv; exact hu1) (by unfold maxLen; omega) (by omega) (Nat.zero_le _)
  obtain ⟨A', c', rfl⟩ := own_formI h2
  have eb' : Value.ownBlock (.slice A' (n + 1) c') = A'.map (·.block) := by cases A' <;> rfl
  rw [eb] at h3 h5
  rw [eb'] at h5
  have hK := h A' c' w' h2 h3 (by
    rcases h5 with h5 | h5
    · exact .inl h5
    · exact .inr fun g hg => by rw [h5] at hg; injection hg with hg; omega)
  refine wpList_plain hgd fun K hKK => ?_
  unfold Oper.wp execOp
  simp only [ho, resolve, invoke, builtin, Sem.run_bind, Sem.run_pure, Result.andThen_ok, List.map_toArray, List.map_cons, List.map_nil, hs, hx, hr]
  exact hKK _ _ hK
end Go.Proofs.Ytgeffkdobnipgaa
