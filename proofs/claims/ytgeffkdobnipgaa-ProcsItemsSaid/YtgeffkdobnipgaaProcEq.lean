/- Two outcomes compared as values. -/
import Derived.Test.YtgeffkdobnipgaaProcNew
import Derived.Laws.StructEq
import Derived.ChangeKeysEq
namespace Go.Proofs.Ytgeffkdobnipgaa
open Go.RowKit Nac Nac.Procs
theorem fieldsOut : Try.prog.underlying 37 = some (.struct (Try.prog.fieldsOf 37)) := by kernel_rfl
theorem stoodOut : Try.prog.stoodInHeld 37 = false := by kernel_rfl
theorem partsOut : (Try.prog.fieldsOf 37).toList.map (fun f => (f.name != "_", f.type, f.offset)) = [(true, 25, 0), (true, 2, 1), (true, 4, 2)] := by kernel_rfl
theorem uErrno : Try.prog.underlying 25 = some (.int .i64) := by kernel_rfl
theorem uI64 : Try.prog.underlying 2 = some (.int .i64) := by kernel_rfl
theorem uBool : Try.prog.underlying 4 = some .bool := by kernel_rfl
theorem kErrno : Try.prog.plainKey 25 = true := by kernel_rfl
theorem kI64 : Try.prog.plainKey 2 = true := by kernel_rfl
theorem kBool : Try.prog.plainKey 4 = true := by kernel_rfl
theorem eqFields_cons (w : World) (d : Nat) (xs ys : Array Value) (f : Field) (fs : List Field) (a b : Value) (r : Bool) (hn : (f.name != "_") = true)
    (h1 : (part f.type xs f.offset).run Try.prog w = .ok a w) (h2 : (part f.type ys f.offset).run Try.prog w = .ok b w) (h3 : (Op.equalIn d f.type a b).run Try.prog w = .ok r w) (r' : Bool)
    (h4 : (Op.eqFields d xs ys fs).run Try.prog w = .ok r' w) : (Op.eqFields d xs ys (f :: fs)).run Try.prog w = .ok (r && r') w := by
  have hn' : f.name ≠ "_" := by simpa using hn
  simp only [Op.eqFields, hn', ne_eq, not_false_eq_true, if_true, Sem.run_bind, h1, h2, h3, Result.andThen_ok]
  cases r
  · simp
  · simpa using h4
def outEq (x y : Out) : Bool := (x.code == y.code) && ((x.value == y.value) && ((x.waits == y.waits) && true))
theorem outEq_self (x : Out) : outEq x x = true := by simp [outEq]
theorem outEq_iff {x y : Out} : outEq x y = true ↔ x = y := by
  obtain ⟨a, b, c⟩ := x
  obtain ⟨a', b', c'⟩ := y
  simp [outEq]
theorem run_equal_out (w : World) (x y : Out) : (Op.equal 37 (.agg (ocs x).toArray) (.agg (ocs y).toArray)).run Try.prog w = .ok (outEq x y) w := by
  unfold Op.equal Op.maxDepth
  rw [run_equalIn_struct w 9999 _ _ _ fieldsOut stoodOut]
  have hf := partsOut
  have hlen : (Try.prog.fieldsOf 37).toList.length = 3 := by simpa using congrArg List.length hf
  match hL : (Try.prog.fieldsOf 37).toList, hlen with
  | [f0, f1, f2], _ =>
    rw [hL] at hf
    simp only [List.map_cons, List.map_nil, List.cons.injEq, Prod.mk.injEq, and_true] at hf
    obtain ⟨⟨n0, t0, o0⟩, ⟨n1, t1, o1⟩, ⟨n2, t2, o2⟩⟩ := hf
    have e0 : (Op.equalIn 9999 f0.type (.int .i64 x.code) (.int .i64 y.code)).run Try.prog w = .ok (x.code == y.code) w := by rw [t0]; exact run_equalIn_int w 9998 _ _ _ _ _ uErrno
    have e1 : (Op.equalIn 9999 f1.type (.int .i64 x.value) (.int .i64 y.value)).run Try.prog w = .ok (x.value == y.value) w := by rw [t1]; exact run_equalIn_int w 9998 _ _ _ _ _ uI64
    have e2 : (Op.equalIn 9999 f2.type (.bool x.waits) (.bool y.waits)).run Try.prog w = .ok (x.waits == y.waits) w := by rw [t2]; exact run_equalIn_bool w 9998 _ _ _ uBool
    exact eqFields_cons w 9999 (ocs x).toArray (ocs y).toArray f0 [f1, f2] _ _ _ n0 (by rw [t0, o0]; exact run_part_plain w kErrno rfl) (by rw [t0, o0]; exact run_part_plain w kErrno rfl) e0 _
      (eqFields_cons w 9999 _ _ f1 [f2] _ _ _ n1 (by rw [t1, o1]; exact run_part_plain w kI64 rfl) (by rw [t1, o1]; exact run_part_plain w kI64 rfl) e1 _
        (eqFields_cons w 9999 _ _ f2 [] _ _ _ n2 (by rw [t2, o2]; exact run_part_plain w kBool rfl) (by rw [t2, o2]; exact run_part_plain w kBool rfl) e2 true (by simp [Op.eqFields])))
theorem guardOut : Try.prog.eqGuardType Try.prog.depth 37 = false := by kernel_rfl
theorem run_eql_out (w : World) (p q : Operand) (x y : Out) : (do eqGuard .eql 37 p q (.agg (ocs x).toArray) (.agg (ocs y).toArray); binOp .eql 37 (.agg (ocs x).toArray) (.agg (ocs y).toArray) : Sem Value).run Try.prog w = .ok (.bool (outEq x y)) w := by
  have h1 : (eqGuard .eql 37 p q (.agg (ocs x).toArray) (.agg (ocs y).toArray)).run Try.prog w = .ok () w := by
    simp [eqGuard, guardOut]
  rw [Sem.run_bind, h1]
  simp [binOp, run_equal_out w x y]
theorem run_neq_out (w : World) (p q : Operand) (x y : Out) : (do eqGuard .neq 37 p q (.agg (ocs x).toArray) (.agg (ocs y).toArray); binOp .neq 37 (.agg (ocs x).toArray) (.agg (ocs y).toArray) : Sem Value).run Try.prog w = .ok (.bool (!outEq x y)) w := by
  have h1 : (eqGuard .neq 37 p q (.agg (ocs x).toArray) (.agg (ocs y).toArray)).run Try.prog w = .ok () w := by
    simp [eqGuard, guardOut]
  rw [Sem.run_bind, h1]
  simp [binOp, run_equal_out w x y]
/-- what a set's calls leave, from ahead of its making -/
theorem FrS.out {B S : Nat} {A A' : Nat → Option Addr} {w w1 w' : World} (hb : Below B w w1) (hf : FrS S A w1 A' w') (hfr : ∀ k, Foot S A k → B ≤ k) (hB : B ≤ w.heap.size) : Below B w w' :=
  ⟨hf.os.trans hb.os, hf.tape.trans hb.tape, hf.output.trans hb.output, Nat.le_trans hb.size hf.size, fun k hk => by
    rw [hf.block k (Nat.lt_of_lt_of_le hk (Nat.le_trans hB hb.size)) fun h => by have := hfr k h; omega]
    exact hb.block k hk⟩
end Go.Proofs.Ytgeffkdobnipgaa
