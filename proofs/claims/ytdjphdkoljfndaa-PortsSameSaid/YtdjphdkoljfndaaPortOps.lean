/- A message as one value: laid, loaded, stored, copied into. -/
import Derived.Test.YtdjphdkoljfndaaPortAt
import Derived.Test.YtdjphdkoljfndaaStoreB
import Derived.Laws.CopyOwn
namespace Go.Proofs.Ytdjphdkoljfndaa
open Go.RowKit Nac
theorem infoMsg : (Try.prog.info? 59).map (·.size) = some 66 := by kernel_rfl
theorem zeroMsg : ((Try.prog.info? 59).bind (·.zero)) = some (.agg (mcells zmsg).toArray) := by kernel_rfl
theorem builtZ : Try.prog.built 59 [] = some (mcells zmsg).toArray := by kernel_rfl
def ncells (n now : Int) : List Value := (List.replicate 64 (0 : UInt8)).map bv ++ [.int .i64 n, .int .u64 now]
theorem builtN (n now : Int) : Try.prog.built 59 [(1, .int .i64 n), (2, .int .u64 now)] = some (ncells n now).toArray := by kernel_rfl
section
variable {w : World} {ops : Array Oper} {rest : List Oper} {o : Oper} {a : Act} {Q : Exit → Act → World → Prop}
theorem wpList_allocMsg (hg : o.guard = none) (hop : o.op = .alloc 59)
    (h : ∀ w', Blk w' w.heap.size (mcells zmsg) → w.grownBy w' none → wpList Try.prog ops Q rest (a.put o.dst (.pointer (some ⟨w.heap.size, 0, none⟩))) w') : wpList Try.prog ops Q (o :: rest) a w := by
  refine wpList_plain hg fun K hK => ?_
  have hz : (zeroValue 59).run Try.prog w = .ok (.agg (mcells zmsg).toArray) w := by
    have := zeroMsg
    cases hi : Try.prog.info? 59 with
    | none => simp [hi] at this
    | some i =>
      simp [hi] at this
      simp [zeroValue, typeInfo, hi, this]
  have hr : (Instr.alloc 59 true (.tuple #[])).run Try.prog w = .ok (.pointer (some ⟨w.heap.size, 0, none⟩)) (w.alloc (.cells (mcells zmsg).toArray 59)) := by
    simp [Instr.alloc, hz, newVar, newRow, Value.cells]
  unfold Oper.wp execOp
  simp only [hop, Sem.run_bind, hr, Result.andThen_ok]
  exact hK _ _ (h _ (Blk.new w _ _) (World.grownBy_alloc w _ none))
theorem wpList_zmsg (hg : o.guard = none) (hop : o.op = .build 59 #[]) (h : wpList Try.prog ops Q rest (a.put o.dst (.agg (mcells zmsg).toArray)) w) : wpList Try.prog ops Q (o :: rest) a w := by
  have hf : Try.prog.built 59 ((#[] : Array (Nat × Operand)).map fun (i, x) => (i, a.eval x)).toList = some (mcells zmsg).toArray := by simpa using builtZ
  refine wpList_build hg 59 #[] hop (by rw [hf]; rfl) ?_
  rw [hf]
  exact h
theorem wpList_nmsg (hg : o.guard = none) (x y : Operand) (hop : o.op = .build 59 #[(1, x), (2, y)]) (n now : Int) (hx : a.eval x = .int .i64 n) (hy : a.eval y = .int .u64 now)
    (h : wpList Try.prog ops Q rest (a.put o.dst (.agg (ncells n now).toArray)) w) : wpList Try.prog ops Q (o :: rest) a w := by
  have hf : Try.prog.built 59 ((#[(1, x), (2, y)] : Array (Nat × Operand)).map fun (i, x) => (i, a.eval x)).toList = some (ncells n now).toArray := by simpa [hx, hy] using builtN n now
  refine wpList_build hg 59 #[(1, x), (2, y)] hop (by rw [hf]; rfl) ?_
  rw [hf]
  exact h
theorem wpList_loadMsg (hg : o.guard = none) (x : Operand) (hop : o.op = .load 59 x) (b off : Nat) (cs vs : List Value) (hx : a.eval x = .pointer (some ⟨b, off, none⟩)) (hb : Blk w b cs) (hv : ∃ pre post, cs = pre ++ vs ++ post ∧ pre.length = off) (hl : vs.length = 66)
    (h : wpList Try.prog ops Q rest (a.put o.dst (.agg vs.toArray)) w) : wpList Try.prog ops Q (o :: rest) a w :=
  wpList_load_mid hg 59 x hop b off hx vs _ (hb.range off vs hv) Try.underlying59 rfl (by rw [infoMsg, hl]) h
theorem wpList_storeMsg (hg : o.guard = none) (x y : Operand) (hop : o.op = .store 59 x y) (b off : Nat) (cs vs : List Value) (hx : a.eval x = .pointer (some ⟨b, off, none⟩)) (hy : a.eval y = .agg vs.toArray) (hb : Blk w b cs) (hl : vs.length = 66) (hfit : off + 66 ≤ cs.length) (h1 : ∀ v ∈ vs, v.oneCell' = true) (L : List Value) (hL : cs.take off ++ vs ++ cs.drop (off + vs.length) = L)
    (h : ∀ w', Blk w' b L → w.grownBy w' (some b) → wpList Try.prog ops Q rest (a.put o.dst undef) w') : wpList Try.prog ops Q (o :: rest) a w :=
  wpList_store_mid hg 59 x y hop b off vs.toArray hx hy (hb.there off _ (by simp; omega)) (by rw [infoMsg]; simp [hl]) (all_oneCell_toArray h1)
    (h _ (by have := hb.setCells vs off (by omega); rw [hL] at this; exact this) (by simpa using grown_setCells b vs off w))
theorem ncells_copy (l : List UInt8) (now : Nat) (hl : l.length ≤ 64) : (ncells l.length now).take 0 ++ l.map bv ++ (ncells l.length now).drop (0 + (l.map bv).length) = mcells ⟨l, now⟩ := by
  have e : (ncells (l.length : Int) (now : Int)).drop (0 + (l.map bv).length) = (List.replicate (64 - l.length) (0 : UInt8)).map bv ++ [.int .i64 l.length, .int .u64 now] := by
    unfold ncells
    rw [Nat.zero_add, List.length_map, List.drop_append, List.length_map, List.length_replicate, Nat.sub_eq_zero_of_le hl, List.drop_zero, ← List.map_drop, List.drop_replicate]
  rw [e]
  simp [mcells, pad]
/-- copy(m.data[:], b) -/
theorem wpList_copyMsg (hg : o.guard = none) (d s : Operand) (hop : o.op = .call { callee := .builtin .copy, args := #[d, s], argTypes := #[30, 30] })
    (g dc : Nat) (hd : a.eval d = .slice (some ⟨g, 0, none⟩) 64 dc) (A : Option Addr) (n c : Nat) (l : List UInt8) (hn : n = l.length) (hs : a.eval s = .slice A n c) (B : Nat) (hr : RB w B A l) (hl : l.length ≤ 64) (now : Nat) (hb : Blk w g (ncells l.length now))
    (h : ∀ w', Blk w' g (mcells ⟨l, now⟩) → w.grownBy w' (some g) → wpList Try.prog ops Q rest (a.put o.dst (goInt l.length)) w') : wpList Try.prog ops Q (o :: rest) a w := by
  subst hn
  have hlen : (ncells (l.length : Int) (now : Int)).length = 66 := by simp [ncells]
  have hi1 : (Try.prog.info? 5).map (·.size) = some 1 := by kernel_rfl
  have hK : ∀ w', w' = w.setCells g 0 (l.map bv) → Blk w' g (mcells ⟨l, now⟩) ∧ w.grownBy w' (some g) := by
    rintro w' rfl
    refine ⟨?_, grown_setCells _ _ _ _⟩
    have := hb.setCells (l.map bv) 0 (by rw [hlen]; simp; omega)
    rw [ncells_copy l now hl] at this
    exact this
  have hmin : Nat.min l.length 64 = l.length := Nat.min_eq_left hl
  have hrun : (Builtin.copy_ #[30, 30] o.type #[.slice (some ⟨g, 0, none⟩) 64 dc, .slice A l.length c]).run Try.prog w = .ok (goInt l.length) (w.setCells g 0 (l.map bv)) := by
    by_cases hne : l = []
    · subst hne
      exact run_copy_none w _ _ _ 5 _ A 64 dc 0 c Try.underlying30 hi1 (by rfl)
    · obtain ⟨b', o', rfl, _, hc⟩ := hr hne
      have := run_copy_cells (P := Try.prog) w 30 30 o.type 5 g 0 64 dc ⟨b', o', none⟩ l.length c (l.map bv) Try.underlying30 hi1 (by rw [List.length_map, hmin])
        (fun j v hv => by
          have hj : j < l.length := by simpa using (List.getElem?_eq_some_iff.1 hv).1
          rw [Addr.add_mid, hc j hj]
          simp [hj] at hv
          rw [← hv]; rfl)
        (fun j hj => (hb.there 0 66 (by omega) j (by simp at hj; omega)).1) (fun j hj => (hb.there 0 66 (by omega) j (by simp at hj; omega)).2) (bv_oneCell l)
      rw [List.length_map] at this
      exact this
  refine wpList_plain hg fun K hKK => ?_
  obtain ⟨h1, h2⟩ := hK _ rfl
  unfold Oper.wp
  simp [execOp, hop, resolve, invoke, builtin, hd, hs, hrun, Result.andThen]
  exact hKK _ _ (h _ h1 h2)
end
end Go.Proofs.Ytdjphdkoljfndaa
