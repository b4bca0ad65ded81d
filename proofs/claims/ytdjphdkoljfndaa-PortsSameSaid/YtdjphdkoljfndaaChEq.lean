/- Two messages compared as values. -/
import Derived.Test.YtdjphdkoljfndaaPortRecv
import Derived.Laws.StructEq
import Derived.ChangeKeysEq
namespace Go.Proofs.Ytdjphdkoljfndaa
open Go.RowKit Nac
theorem uByte : Try.prog.underlying 5 = some (.int .u8) := by kernel_rfl
theorem kByte : Try.prog.plainKey 5 = true := by kernel_rfl
theorem run_items (w : World) (d : Nat) (xs ys : List UInt8) : ∀ (is : List Nat), (∀ i ∈ is, i < xs.length ∧ i < ys.length) →
    (Op.eqItems (d + 1) 5 1 (xs.map bv).toArray (ys.map bv).toArray is).run Try.prog w = .ok (is.all fun i => xs.getD i 0 == ys.getD i 0) w
  | [], _ => by simp [Op.eqItems]
  | i :: is, h => by
    obtain ⟨h1, h2⟩ := h i List.mem_cons_self
    have ih := run_items w d xs ys is (fun j hj => h j (List.mem_cons_of_mem _ hj))
    have p1 : (part 5 (xs.map bv).toArray (i * 1)).run Try.prog w = .ok (bv (xs.getD i 0)) w := run_part_plain w kByte (by simp [h1])
    have p2 : (part 5 (ys.map bv).toArray (i * 1)).run Try.prog w = .ok (bv (ys.getD i 0)) w := run_part_plain w kByte (by simp [h2])
    have p3 : (Op.equalIn (d + 1) 5 (bv (xs.getD i 0)) (bv (ys.getD i 0))).run Try.prog w = .ok (xs.getD i 0 == ys.getD i 0) w := by
      rw [show bv (xs.getD i 0) = .int .u8 ((xs.getD i 0).toNat : Int) from rfl, show bv (ys.getD i 0) = .int .u8 ((ys.getD i 0).toNat : Int) from rfl, run_equalIn_int w d 5 .u8 .u8 _ _ uByte]
      congr 1
      rw [Bool.eq_iff_iff, beq_iff_eq, beq_iff_eq, Int.natCast_inj, UInt8.toNat_inj]
    simp only [Op.eqItems, Sem.run_bind, p1, p2, p3, Result.andThen_ok, List.all_cons]
    cases xs.getD i 0 == ys.getD i 0
    · simp
    · simpa using ih
theorem all_range (xs ys : List UInt8) (n : Nat) (hx : xs.length = n) (hy : ys.length = n) : ((List.range n).all fun i => xs.getD i 0 == ys.getD i 0) = decide (xs = ys) := by
  rw [Bool.eq_iff_iff, List.all_eq_true, decide_eq_true_iff]
  constructor
  · intro h
    refine List.ext_getElem (by omega) fun i h1 h2 => ?_
    have := h i (by simp; omega)
    rw [beq_iff_eq] at this
    simpa [h1, h2] using this
  · rintro rfl i _
    simp
theorem fieldsMsg : Try.prog.underlying 59 = some (.struct (Try.prog.fieldsOf 59)) := by kernel_rfl
theorem stoodMsg : Try.prog.stoodInHeld 59 = false := by kernel_rfl
theorem uArr : Try.prog.underlying 57 = some (.array 64 5) := by kernel_rfl
theorem partsMsg : (Try.prog.fieldsOf 59).toList.map (fun f => (f.name != "_", f.type, f.offset)) = [(true, 57, 0), (true, 3, 64), (true, 31, 65)] := by kernel_rfl
theorem uInt : Try.prog.underlying 3 = some (.int .i64) := by kernel_rfl
theorem uU64 : Try.prog.underlying 31 = some (.int .u64) := by kernel_rfl
theorem kInt : Try.prog.plainKey 3 = true := by kernel_rfl
theorem kU64 : Try.prog.plainKey 31 = true := by kernel_rfl
theorem infoArr : (Try.prog.info? 57).map (·.size) = some 64 := by kernel_rfl
theorem infoByteS : (Try.prog.info? 5).isSome = true := by kernel_rfl
theorem cellsByteS : Try.prog.cellsOf 5 = 1 := by kernel_rfl
theorem mcells_toArray (m : Msg) : (mcells m).toArray = ((pad m.b).map bv).toArray ++ #[.int .i64 m.b.length, .int .u64 m.at_] := by simp [mcells]
theorem pad_len (l : List UInt8) (h : l.length ≤ 64) : (pad l).length = 64 := by simp [pad]; omega
theorem part_arr (w : World) (m : Msg) (h : m.b.length ≤ 64) : (part 57 (mcells m).toArray 0).run Try.prog w = .ok (.agg ((pad m.b).map bv).toArray) w := by
  have hp := pad_len m.b h
  have he : (mcells m).take 64 = (pad m.b).map bv := by
    rw [mcells, List.take_append_of_le_length (by simp [hp]), List.take_of_length_le (by simp [hp])]
  cases hi : Try.prog.info? 57 with
  | none => have := infoArr; simp [hi] at this
  | some i =>
    have hs : i.size = 64 := by have := infoArr; simpa [hi] using this
    simp [part, isAgg, run_underlying uArr, sizeOf, typeInfo, hi, hs, he]
theorem eqFields_cons (w : World) (d : Nat) (xs ys : Array Value) (f : Field) (fs : List Field) (a b : Value) (r : Bool) (hn : (f.name != "_") = true)
    (h1 : (part f.type xs f.offset).run Try.prog w = .ok a w) (h2 : (part f.type ys f.offset).run Try.prog w = .ok b w) (h3 : (Op.equalIn d f.type a b).run Try.prog w = .ok r w) (r' : Bool)
    (h4 : (Op.eqFields d xs ys fs).run Try.prog w = .ok r' w) : (Op.eqFields d xs ys (f :: fs)).run Try.prog w = .ok (r && r') w := by
  have hn' : f.name ≠ "_" := by simpa using hn
  simp only [Op.eqFields, hn', ne_eq, not_false_eq_true, if_true, Sem.run_bind, h1, h2, h3, Result.andThen_ok]
  cases r
  · simp
  · simpa using h4
theorem pad_inj (a b : List UInt8) (hl : a.length = b.length) (h : pad a = pad b) : a = b := by
  unfold pad at h
  exact (List.append_inj h hl).1
theorem run_equal_msg (w : World) (x y : Msg) (hx : x.b.length ≤ 64) (hy : y.b.length ≤ 64) : (Op.equal 59 (.agg (mcells x).toArray) (.agg (mcells y).toArray)).run Try.prog w = .ok (decide (x = y)) w := by
  have hpx := pad_len x.b hx
  have hpy := pad_len y.b hy
  unfold Op.equal Op.maxDepth
  rw [run_equalIn_struct w 9999 _ _ _ fieldsMsg stoodMsg]
  have hf := partsMsg
  obtain ⟨i, hi⟩ := Option.isSome_iff_exists.1 infoByteS
  have hlen : (Try.prog.fieldsOf 59).toList.length = 3 := by simpa using congrArg List.length hf
  match hL : (Try.prog.fieldsOf 59).toList, hlen with
  | [f0, f1, f2], _ =>
    rw [hL] at hf
    simp only [List.map_cons, List.map_nil, List.cons.injEq, Prod.mk.injEq, and_true] at hf
    obtain ⟨⟨n0, t0, o0⟩, ⟨n1, t1, o1⟩, ⟨n2, t2, o2⟩⟩ := hf
    have e0 : (Op.equalIn 9999 f0.type (.agg ((pad x.b).map bv).toArray) (.agg ((pad y.b).map bv).toArray)).run Try.prog w = .ok (decide (pad x.b = pad y.b)) w := by
      rw [t0, run_equalIn_array w 9998 _ _ uArr hi, cellsByteS, run_items w 9997 _ _ _ (fun j hj => by simp at hj; omega), all_range _ _ 64 hpx hpy]
    have e1 : (Op.equalIn 9999 f1.type (.int .i64 x.b.length) (.int .i64 y.b.length)).run Try.prog w = .ok ((x.b.length : Int) == (y.b.length : Int)) w := by rw [t1]; exact run_equalIn_int w 9998 _ _ _ _ _ uInt
    have e2 : (Op.equalIn 9999 f2.type (.int .u64 x.at_) (.int .u64 y.at_)).run Try.prog w = .ok ((x.at_ : Int) == (y.at_ : Int)) w := by rw [t2]; exact run_equalIn_int w 9998 _ _ _ _ _ uU64
    have h := eqFields_cons w 9999 (mcells x).toArray (mcells y).toArray f0 [f1, f2] _ _ _ n0 (by rw [t0, o0]; exact part_arr w x hx) (by rw [t0, o0]; exact part_arr w y hy) e0 _
      (eqFields_cons w 9999 _ _ f1 [f2] _ _ _ n1 (by rw [t1, o1]; exact run_part_plain w kInt (by simpa using mcells_64 x hx)) (by rw [t1, o1]; exact run_part_plain w kInt (by simpa using mcells_64 y hy)) e1 _
        (eqFields_cons w 9999 _ _ f2 [] _ _ _ n2 (by rw [t2, o2]; exact run_part_plain w kU64 (by simpa using mcells_65 x hx)) (by rw [t2, o2]; exact run_part_plain w kU64 (by simpa using mcells_65 y hy)) e2 true (by simp [Op.eqFields])))
    rw [h]
    congr 1
    rw [Bool.eq_iff_iff]
    simp only [Bool.and_eq_true, decide_eq_true_eq, beq_iff_eq, and_true, Int.natCast_inj]
    constructor
    · rintro ⟨h1, h2, h3⟩
      have := pad_inj _ _ h2 h1
      cases x
      cases y
      simp_all
    · rintro rfl
      exact ⟨rfl, rfl, rfl⟩
theorem guardMsg : Try.prog.eqGuardType Try.prog.depth 59 = false := by kernel_rfl
theorem run_neq_msg (w : World) (p q : Operand) (x y : Msg) (hx : x.b.length ≤ 64) (hy : y.b.length ≤ 64) : (do eqGuard .neq 59 p q (.agg (mcells x).toArray) (.agg (mcells y).toArray); binOp .neq 59 (.agg (mcells x).toArray) (.agg (mcells y).toArray) : Sem Value).run Try.prog w = .ok (.bool (!decide (x = y))) w := by
  have h1 : (eqGuard .neq 59 p q (.agg (mcells x).toArray) (.agg (mcells y).toArray)).run Try.prog w = .ok () w := by
    simp [eqGuard, guardMsg]
  rw [Sem.run_bind, h1]
  simp [binOp, run_equal_msg w x y hx hy]
end Go.Proofs.Ytdjphdkoljfndaa
