/- Structs of any size: loads, stores, new ones; in a region that draws its order, too. -/
import Derived.Test.YtgeffkdobnipgaaBlk
import Derived.Test.YtgeffkdobnipgaaProg
import Derived.WalkKit
import Derived.Test.YtgeffkdobnipgaaVal
import Derived.Deep.MidRow
namespace Go.Proofs.Ytgeffkdobnipgaa
open Go.RowKit Nac
structure SInfo (T : TypeId) (n : Nat) : Prop where
  info : (Try.prog.info? T).map (·.size) = some n
  row : ∃ d, Try.prog.underlying T = some d ∧ d.isRow = true
section
variable {w : World} {ops : Array Oper} {rest : List Oper} {o : Oper} {a : Act} {Q : Exit → Act → World → Prop} {T : TypeId} {n : Nat}
theorem run_loadS (hS : SInfo T n) (b : Nat) (cs : List Value) (hb : Blk w b cs) (hl : cs.length = n) : (loadVar T ⟨b, 0, none⟩).run Try.prog w = .ok (.agg cs.toArray) w := by
  obtain ⟨d, hu, hd⟩ := hS.row
  exact run_loadVar_mid w b 0 T cs d (hb.range 0 cs ⟨[], [], by simp, rfl⟩) hu hd (by rw [hS.info, hl])
theorem wpList_loadS (hS : SInfo T n) (hg : o.guard = none) (x : Operand) (hop : o.op = .load T x) (b : Nat) (cs : List Value) (hx : a.eval x = .pointer (some ⟨b, 0, none⟩)) (hb : Blk w b cs) (hl : cs.length = n)
    (h : wpList Try.prog ops Q rest (a.put o.dst (.agg cs.toArray)) w) : wpList Try.prog ops Q (o :: rest) a w := by
  obtain ⟨d, hu, hd⟩ := hS.row
  exact wpList_load_mid hg T x hop b 0 hx cs d (hb.range 0 cs ⟨[], [], by simp, rfl⟩) hu hd (by rw [hS.info, hl]) h
theorem wpList_storeS (hS : SInfo T n) (hg : o.guard = none) (x y : Operand) (hop : o.op = .store T x y) (b : Nat) (cs0 cs : List Value) (hx : a.eval x = .pointer (some ⟨b, 0, none⟩)) (hy : a.eval y = .agg cs.toArray) (hb : Blk w b cs0) (hl0 : cs0.length = n) (hl : cs.length = n) (h1 : ∀ v ∈ cs, v.oneCell' = true)
    (h : ∀ w', Blk w' b cs → w.grownBy w' (some b) → wpList Try.prog ops Q rest (a.put o.dst undef) w') : wpList Try.prog ops Q (o :: rest) a w :=
  wpList_store_mid hg T x y hop b 0 cs.toArray hx hy (hb.there 0 _ (by simp [hl0, hl])) (by rw [hS.info]; simp [hl]) (all_oneCell_toArray h1)
    (h _ (by have := hb.setCells cs 0 (by omega); rw [List.take_zero, List.nil_append, List.drop_eq_nil_of_le (by omega), List.append_nil] at this; exact this) (by simpa using grown_setCells b cs 0 w))
theorem run_storeS (hS : SInfo T n) (b : Nat) (cs0 cs : List Value) (hb : Blk w b cs0) (hl0 : cs0.length = n) (hl : cs.length = n) (h1 : ∀ v ∈ cs, v.oneCell' = true) :
    ∃ w', (Instr.storeAt T (.pointer (some ⟨b, 0, none⟩)) (.agg cs.toArray)).run Try.prog w = .ok () w' ∧ Blk w' b cs ∧ w.grownBy w' (some b) :=
  ⟨_, run_storeAt_mid w b 0 T cs.toArray (hb.there 0 _ (by simp [hl0, hl])) (by rw [hS.info]; simp [hl]) (all_oneCell_toArray h1),
    by have := hb.setCells cs 0 (by omega); rw [List.take_zero, List.nil_append, List.drop_eq_nil_of_le (by omega), List.append_nil] at this; exact this, by simpa using grown_setCells b cs 0 w⟩
theorem wpList_binV (hw : Region.wanted o (yielded ops a.tmps) = true) (op : BinOp) (T T' : TypeId) (x y : Operand) (hop : o.op = .binOp op T x y T') (v : Value)
    (hv : (do eqGuard op T x y (a.eval x) (a.eval y); binOp op T (a.eval x) (a.eval y) : Sem Value).run Try.prog w = .ok v w) (h : wpList Try.prog ops Q rest (a.put o.dst v) w) : wpList Try.prog ops Q (o :: rest) a w := by
  unfold wpList
  rw [if_pos hw]
  refine Or.inl ?_
  unfold Oper.wp
  have e : (execOp a.eval o).run Try.prog w = .ok (.value v) w := by
    simp only [execOp, hop]
    rw [Sem.run_bind] at hv
    rw [Sem.run_bind, Sem.run_bind, hv]
    rfl
  rw [e]
  exact h
theorem wpList_boxS (hg : o.guard = none) (x : Operand) (hop : o.op = .box T x) (cs : List Value) (hx : a.eval x = .agg cs.toArray)
    (h : ∀ w', Blk w' w.heap.size cs → w.grownBy w' none → w'.heap.size = w.heap.size + 1 → wpList Try.prog ops Q rest (a.put o.dst (.pointer (some ⟨w.heap.size, 0, none⟩))) w') : wpList Try.prog ops Q (o :: rest) a w := by
  refine wpList_plain hg fun K hK => ?_
  unfold Oper.wp execOp
  simp only [hop, Sem.run_bind, Instr.box, newVar, newRow, run_newObj_alloc, Sem.run_pure, Result.andThen_ok, hx, Value.cells]
  exact hK _ _ (h _ (Blk.new w cs T) (World.grownBy_alloc w _ none) (by simp))
theorem wpList_allocS (cs : List Value) (hz : ((Try.prog.info? T).bind (·.zero)) = some (.agg cs.toArray)) (hg : o.guard = none) (hop : o.op = .alloc T)
    (h : ∀ w', Blk w' w.heap.size cs → w.grownBy w' none → w'.heap.size = w.heap.size + 1 → wpList Try.prog ops Q rest (a.put o.dst (.pointer (some ⟨w.heap.size, 0, none⟩))) w') : wpList Try.prog ops Q (o :: rest) a w := by
  refine wpList_plain hg fun K hK => ?_
  have hz : (zeroValue T).run Try.prog w = .ok (.agg cs.toArray) w := by
    cases hi : Try.prog.info? T with
    | none => simp [hi] at hz
    | some i =>
      simp [hi] at hz
      simp [zeroValue, typeInfo, hi, hz]
  have hr : (Instr.alloc T true (.tuple #[])).run Try.prog w = .ok (.pointer (some ⟨w.heap.size, 0, none⟩)) (w.alloc (.cells cs.toArray T)) := by
    simp [Instr.alloc, hz, newVar, newRow, Value.cells]
  unfold Oper.wp execOp
  simp only [hop, Sem.run_bind, hr, Result.andThen_ok]
  exact hK _ _ (h _ (Blk.new w cs T) (World.grownBy_alloc w _ none) (by simp))
end
section
variable {ops : Array Oper} {Q : Exit → Act → World → Prop} {D : Nat → Value → Prop} {J : (Nat → Bool) → World → Prop} {a0 : Act} {i : Nat} {o : Oper} {T : TypeId} {n : Nat}
theorem vstep_loadS (hS : SInfo T n) (ho : ops[i]? = some o) (hw : ∀ L a w, VCtx ops D J a0 i L a w → Region.wanted o (yielded ops a.tmps) = true) (hJ : ∀ L w, J L w → J (upd L i) w) (x : Tmp) (hop : o.op = .load T (.tmp x)) (b : Nat) (cs : List Value) (hl : cs.length = n)
    (hx : ∀ L a w, VCtx ops D J a0 i L a w → a.tmps.getD x undef = .pointer (some ⟨b, 0, none⟩)) (hb : ∀ L w, J L w → Blk w b cs) (hD : D i (.agg cs.toArray)) : VStep Try.prog ops Q D J a0 i := by
  obtain ⟨d, hu, hd⟩ := hS.row
  refine vstep_pure ho hw hJ fun L a w c => ⟨.agg cs.toArray, ?_, hD⟩
  have e := hx L a w c
  unfold execOp
  simp only [hop, Act.eval, e, Instr.loadAt, Instr.sureAddr, Sem.run_bind, Sem.run_pure, Result.andThen_ok, run_loadS hS b cs (hb L w c.world) hl]
theorem vstep_storeS (hS : SInfo T n) (ho : ops[i]? = some o) (hw : ∀ L a w, VCtx ops D J a0 i L a w → Region.wanted o (yielded ops a.tmps) = true) (x y : Tmp) (hop : o.op = .store T (.tmp x) (.tmp y)) (b : Nat) (cs : List Value) (hl : cs.length = n) (h1 : ∀ v ∈ cs, v.oneCell' = true)
    (hx : ∀ L a w, VCtx ops D J a0 i L a w → a.tmps.getD x undef = .pointer (some ⟨b, 0, none⟩)) (hy : ∀ L a w, VCtx ops D J a0 i L a w → a.tmps.getD y undef = .agg cs.toArray) (hb : ∀ L w, J L w → ∃ cs0, cs0.length = n ∧ Blk w b cs0) (hD : D i undef)
    (hJ : ∀ L w w', J L w → Blk w' b cs → w.grownBy w' (some b) → J (upd L i) w') : VStep Try.prog ops Q D J a0 i := by
  intro o' ho' L a w c
  rw [ho] at ho'
  obtain rfl := Option.some.inj ho'
  rw [if_pos (hw L a w c)]
  obtain ⟨cs0, hl0, hb0⟩ := hb L w c.world
  obtain ⟨w', hr, hb', hg⟩ := run_storeS hS b cs0 cs hb0 hl0 hl h1
  have e1 := hx L a w c
  have e2 := hy L a w c
  have hr2 : (execOp a.eval o).run Try.prog w = .ok .skip w' := by
    unfold execOp
    simp only [hop, Act.eval, e1, e2, Sem.run_bind, hr, Result.andThen_ok, Sem.run_pure]
  unfold Oper.wp
  rw [hr2]
  exact ⟨undef, rfl, hD, hJ L w w' c.world hb' hg⟩
end
end Go.Proofs.Ytgeffkdobnipgaa
