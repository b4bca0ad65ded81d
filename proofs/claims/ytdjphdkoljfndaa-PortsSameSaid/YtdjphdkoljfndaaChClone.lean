/- Clone. -/
import Derived.Test.YtdjphdkoljfndaaPortRecv
import Derived.Test.YtdjphdkoljfndaaPortNew
namespace Go.Proofs.Ytdjphdkoljfndaa
open Go.RowKit Nac
theorem infoChan : (Try.prog.info? 62).map (·.size) = some 1062 := by kernel_rfl
section
variable {w : World} {ops : Array Oper} {rest : List Oper} {o : Oper} {a : Act} {Q : Exit → Act → World → Prop}
theorem wpList_loadChan (hg : o.guard = none) (x : Operand) (hop : o.op = .load 62 x) (b : Nat) (C : Ch) (hC : C.ok) (f : Nat) (hx : a.eval x = .pointer (some ⟨b, 0, none⟩)) (hb : Blk w b (ccells C f))
    (h : wpList Try.prog ops Q rest (a.put o.dst (.agg (ccells C f).toArray)) w) : wpList Try.prog ops Q (o :: rest) a w :=
  wpList_load_mid hg 62 x hop b 0 hx (ccells C f) _ (hb.range 0 (ccells C f) ⟨[], [], by simp, rfl⟩) Try.underlying62 rfl (by rw [infoChan, ccells_len C hC f]) h
theorem ccells_one (C : Ch) (f : Nat) : ∀ v ∈ ccells C f, v.oneCell' = true := by
  intro v hv
  unfold ccells at hv
  rcases List.mem_append.1 hv with hv | hv
  · simp only [hd, List.mem_cons, List.not_mem_nil, or_false] at hv
    rcases hv with rfl | rfl | rfl | rfl | rfl | rfl <;> rfl
  · simp only [List.mem_flatten, ringL, List.mem_map] at hv
    obtain ⟨_, ⟨s, _, rfl⟩, hv⟩ := hv
    exact mcells_one _ v hv
theorem zeroChan : ((Try.prog.info? 62).bind (·.zero)) = some (.agg (newcells 0 0 0).toArray) := by kernel_rfl
theorem wpList_allocChan (hg : o.guard = none) (hop : o.op = .alloc 62)
    (h : ∀ w', Blk w' w.heap.size (newcells 0 0 0) → w.grownBy w' none → wpList Try.prog ops Q rest (a.put o.dst (.pointer (some ⟨w.heap.size, 0, none⟩))) w') : wpList Try.prog ops Q (o :: rest) a w := by
  refine wpList_plain hg fun K hK => ?_
  have hz : (zeroValue 62).run Try.prog w = .ok (.agg (newcells 0 0 0).toArray) w := by
    have := zeroChan
    cases hi : Try.prog.info? 62 with
    | none => simp [hi] at this
    | some i =>
      simp [hi] at this
      simp [zeroValue, typeInfo, hi, this]
  have hr : (Instr.alloc 62 true (.tuple #[])).run Try.prog w = .ok (.pointer (some ⟨w.heap.size, 0, none⟩)) (w.alloc (.cells (newcells 0 0 0).toArray 62)) := by
    simp [Instr.alloc, hz, newVar, newRow, Value.cells]
  unfold Oper.wp execOp
  simp only [hop, Sem.run_bind, hr, Result.andThen_ok]
  exact hK _ _ (h _ (Blk.new w _ _) (World.grownBy_alloc w _ none))
theorem newcells_len (k m s : Int) : (newcells k m s).length = 1062 := by
  unfold newcells
  rw [List.length_append, flatten_len 66 _ (by intro x hx; rw [List.eq_of_mem_replicate hx]; exact mcells_len _ (by decide)), List.length_replicate]
  rfl
theorem wpList_storeChan (hg : o.guard = none) (x y : Operand) (hop : o.op = .store 62 x y) (b : Nat) (C : Ch) (hC : C.ok) (f : Nat) (k m s : Int) (hx : a.eval x = .pointer (some ⟨b, 0, none⟩)) (hy : a.eval y = .agg (ccells C f).toArray) (hb : Blk w b (newcells k m s))
    (h : ∀ w', Blk w' b (ccells C f) → w.grownBy w' (some b) → wpList Try.prog ops Q rest (a.put o.dst undef) w') : wpList Try.prog ops Q (o :: rest) a w :=
  wpList_store_mid hg 62 x y hop b 0 (ccells C f).toArray hx hy (hb.there 0 _ (by simp [newcells_len, ccells_len C hC f])) (by rw [infoChan]; simp [ccells_len C hC f]) (all_oneCell_toArray (ccells_one C f))
    (h _ (by have := hb.setCells (ccells C f) 0 (by simp [newcells_len, ccells_len C hC f]); rw [List.take_zero, List.nil_append, List.drop_eq_nil_of_le (by simp [newcells_len, ccells_len C hC f]), List.append_nil] at this; exact this) (by simpa using grown_setCells b (ccells C f) 0 w))
end
def RetClone (w : World) (C : Ch) (f : Nat) (e : Ending) (w' : World) : Prop := ∃ b, e = .returned (.pointer (some ⟨b, 0, none⟩)) ∧ Blk w' b (ccells C f) ∧ w.heap.size ≤ b ∧ Below w.heap.size w w'
set_option maxHeartbeats 2000000 in
theorem clone_calls (w : World) (b : Nat) (C : Ch) (hC : C.ok) (f : Nat) (h : Blk w b (ccells C f)) :
    Calls Try.prog 14 #[.pointer (some ⟨b, 0, none⟩)] w (RetClone w C f) := by
  have HB := Lib.hid h
  clear h
  go_enter Try.func14, Try.ntmps14
  go_wp2_with (first
    | ((with_reducible show wpList _ _ _ (Oper.mk _ (Op.load _ _) _ _ _ _ :: _) _ _); refine wpList_loadChan rfl _ rfl b C hC f rfl HB.out ?_)
    | ((with_reducible show wpList _ _ _ (Oper.mk _ (Op.alloc _) _ _ _ _ :: _) _ _); refine wpList_allocChan rfl rfl ?_))
  intro w2 hb2 hg2
  have HB2 := Lib.hid hb2
  have HG2 := Lib.hid hg2
  clear hb2 hg2
  go_wp2_with ((with_reducible show wpList _ _ _ (Oper.mk _ (Op.store _ _ _) _ _ _ _ :: _) _ _); refine wpList_storeChan rfl _ _ rfl w.heap.size C hC f 0 0 0 rfl rfl HB2.out ?_)
  intro w3 hb3 hg3
  have HB3 := Lib.hid hb3
  have HG3 := Lib.hid hg3
  clear hb3 hg3
  go_wp2
  go_ret
  exact ⟨_, rfl, HB3.out, Nat.le_refl _, ((Below.refl _ _).grown HG2.out (Nat.le_refl _) (fun j e => by cases e)).grown HG3.out HG2.out.size (fun j e => by injection e with e; exact Nat.le_of_eq e)⟩
end Go.Proofs.Ytdjphdkoljfndaa
