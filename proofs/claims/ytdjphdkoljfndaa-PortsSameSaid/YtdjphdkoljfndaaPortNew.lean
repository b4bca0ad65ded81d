/- New. -/
import Derived.Test.YtdjphdkoljfndaaPortRecv
namespace Go.Proofs.Ytdjphdkoljfndaa
open Go.RowKit Nac
def newcells (k m s : Int) : List Value := [.int .i64 k, .int .i64 m, .int .i64 s, .int .i64 0, .int .i64 0, .int .u64 0] ++ (List.replicate 16 (mcells zmsg)).flatten
theorem builtC (k m s : Int) : Try.prog.built 62 [(0, .int .i64 k), (1, .int .i64 m), (2, .int .i64 s)] = some (newcells k m s).toArray := by kernel_rfl
theorem newcells_eq (k m s : Nat) : newcells k m s = ccells ⟨k, m, s, 0, []⟩ 0 := by
  unfold newcells ccells hd
  have e : ringL 0 [] = List.replicate 16 (mcells zmsg) := by
    unfold ringL
    apply List.ext_getElem (by simp)
    intro i h1 h2
    rw [List.getElem_map, List.getElem_replicate]
    rfl
  rw [e]
  rfl
section
variable {w : World} {ops : Array Oper} {rest : List Oper} {o : Oper} {a : Act} {Q : Exit → Act → World → Prop}
theorem wpList_newchan (hg : o.guard = none) (x y z : Operand) (hop : o.op = .build 62 #[(0, x), (1, y), (2, z)]) (k m s : Int) (hx : a.eval x = .int .i64 k) (hy : a.eval y = .int .i64 m) (hz : a.eval z = .int .i64 s)
    (h : wpList Try.prog ops Q rest (a.put o.dst (.agg (newcells k m s).toArray)) w) : wpList Try.prog ops Q (o :: rest) a w := by
  have hf : Try.prog.built 62 ((#[(0, x), (1, y), (2, z)] : Array (Nat × Operand)).map fun (i, x) => (i, a.eval x)).toList = some (newcells k m s).toArray := by simpa [hx, hy, hz] using builtC k m s
  refine wpList_build hg 62 #[(0, x), (1, y), (2, z)] hop (by rw [hf]; rfl) ?_
  rw [hf]
  exact h
theorem wpList_boxCells (hg : o.guard = none) (t : TypeId) (x : Operand) (hop : o.op = .box t x) (cs : List Value) (hx : a.eval x = .agg cs.toArray)
    (h : ∀ w', Blk w' w.heap.size cs → w.grownBy w' none → wpList Try.prog ops Q rest (a.put o.dst (.pointer (some ⟨w.heap.size, 0, none⟩))) w') : wpList Try.prog ops Q (o :: rest) a w := by
  refine wpList_plain hg fun K hK => ?_
  have hr : (Instr.box t (.agg cs.toArray)).run Try.prog w = .ok (.pointer (some ⟨w.heap.size, 0, none⟩)) (w.alloc (.cells cs.toArray t)) := by
    simp [Instr.box, newVar, newRow, Value.cells]
  unfold Oper.wp execOp
  simp only [hop, hx, Sem.run_bind, hr, Result.andThen_ok]
  exact hK _ _ (h _ (Blk.new w _ _) (World.grownBy_alloc w _ none))
end
def NewOk (k m s : Int) : Prop := 0 ≤ s ∧ s ≤ 64 ∧ ((k = 0 ∧ m = 1) ∨ ((k = 1 ∨ k = 2) ∧ 1 ≤ m ∧ m ≤ 16))
set_option maxHeartbeats 2000000 in
theorem new_bad (w : World) (k m s : Int) (h : ¬ NewOk k m s) :
    Calls Try.prog 7 #[.int .i64 k, .int .i64 m, .int .i64 s] w fun e w' => e = .returned (.tuple #[.pointer none, .int .i64 1]) ∧ w = w' := by
  have h2 : (k < 0 ∨ 2 < k) ∨ (k = 0 ∧ (m < 1 ∨ 1 < m)) ∨ (k = 0 ∧ m = 1 ∧ s < 0) ∨ (k = 0 ∧ m = 1 ∧ 64 < s) ∨ ((k = 1 ∨ k = 2) ∧ (m < 1 ∨ 16 < m)) ∨ ((k = 1 ∨ k = 2) ∧ 1 ≤ m ∧ m ≤ 16 ∧ s < 0) ∨ ((k = 1 ∨ k = 2) ∧ 1 ≤ m ∧ m ≤ 16 ∧ 64 < s) := by
    unfold NewOk at h; omega
  clear h
  rcases h2 with (h | h) | ⟨rfl, h | h⟩ | ⟨rfl, rfl, h⟩ | ⟨rfl, rfl, h⟩ | ⟨rfl | rfl, h | h⟩ | ⟨rfl | rfl, h1, h2, h⟩ | ⟨rfl | rfl, h1, h2, h⟩
  all_goals
    go_enter Try.func7, Try.ntmps7
    go_wp2
    go_ret2
    exact ⟨rfl, rfl⟩
set_option maxHeartbeats 2000000 in
theorem new_ok (w : World) (k m s : Int) (h : NewOk k m s) :
    Calls Try.prog 7 #[.int .i64 k, .int .i64 m, .int .i64 s] w fun e w' => e = .returned (.tuple #[.pointer (some ⟨w.heap.size, 0, none⟩), .int .i64 0]) ∧ Blk w' w.heap.size (ccells ⟨k.toNat, m.toNat, s.toNat, 0, []⟩ 0) ∧ w.grownBy w' none := by
  have he := newcells_eq k.toNat m.toNat s.toNat
  rw [Int.toNat_of_nonneg (by unfold NewOk at h; omega), Int.toNat_of_nonneg (by unfold NewOk at h; omega), Int.toNat_of_nonneg (by unfold NewOk at h; omega)] at he
  rw [← he]
  clear he
  obtain ⟨h1, h2, ⟨rfl, rfl⟩ | ⟨rfl | rfl, h3, h4⟩⟩ := h
  all_goals
    go_enter Try.func7, Try.ntmps7
    go_wp2_with (first
      | ((with_reducible show wpList _ _ _ (Oper.mk _ (Op.build _ _) _ _ _ _ :: _) _ _); refine wpList_newchan rfl _ _ _ rfl _ _ _ rfl rfl rfl ?_)
      | ((with_reducible show wpList _ _ _ (Oper.mk _ (Op.box _ _) _ _ _ _ :: _) _ _); refine wpList_boxCells rfl _ _ rfl _ rfl ?_))
    intro w2 hb2 hg2
    have HB := Lib.hid hb2; clear hb2
    have HG := Lib.hid hg2; clear hg2
    go_wp2
    go_ret2
    exact ⟨rfl, HB.out, HG.out⟩
end Go.Proofs.Ytdjphdkoljfndaa
