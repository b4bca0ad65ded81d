/- nacelletop: alike. -/
import Derived.Test.YtlecpekgnlaneaaDoorPvmNew
import Derived.RegionTactic
import Derived.Deep.QuietTactic
import Derived.BigQuiet
import Derived.Laws.StructEq
import Derived.ChangeKeysEq
namespace Go.Proofs.YtlecpekgnlaneaaDoor
open Go.RowKit Nac Nac.Pvm
theorem uI64 : Tryd.prog.underlying 2 = some (.int .i64) := by kernel_rfl
theorem uI : Tryd.prog.underlying 3 = some (.int .i64) := by kernel_rfl
theorem kI64 : Tryd.prog.plainKey 2 = true := by kernel_rfl
theorem kI : Tryd.prog.plainKey 3 = true := by kernel_rfl
theorem uRegs : Tryd.prog.underlying 31 = some (.array 8 2) := by kernel_rfl
theorem infoI64S : (Tryd.prog.info? 2).isSome = true := by kernel_rfl
theorem cellsI64 : Tryd.prog.cellsOf 2 = 1 := by kernel_rfl
theorem guardRegs : Tryd.prog.eqGuardType Tryd.prog.depth 31 = false := by kernel_rfl
theorem run_itemsI (w : World) (d : Nat) (xs : List Int) : ∀ (is : List Nat), (∀ i ∈ is, i < xs.length) →
    (Op.eqItems (d + 1) 2 1 (xs.map (Value.int .i64)).toArray (xs.map (Value.int .i64)).toArray is).run Tryd.prog w = .ok true w
  | [], _ => by simp [Op.eqItems]
  | i :: is, h => by
    have h1 := h i List.mem_cons_self
    have ih := run_itemsI w d xs is (fun j hj => h j (List.mem_cons_of_mem _ hj))
    have p1 : (part 2 (xs.map (Value.int .i64)).toArray (i * 1)).run Tryd.prog w = .ok (.int .i64 (xs.getD i 0)) w := run_part_plain w kI64 (by simp [h1])
    have p3 : (Op.equalIn (d + 1) 2 (.int .i64 (xs.getD i 0)) (.int .i64 (xs.getD i 0))).run Tryd.prog w = .ok true w := by
      rw [run_equalIn_int w d 2 .i64 .i64 _ _ uI64]
      simp
    simp only [Op.eqItems, Sem.run_bind, p1, p3, Result.andThen_ok]
    simpa using ih
theorem run_neq_regs (w : World) (p q : Operand) (xs : List Int) (h : xs.length = 8) : (do eqGuard .neq 31 p q (.agg (xs.map (Value.int .i64)).toArray) (.agg (xs.map (Value.int .i64)).toArray); binOp .neq 31 (.agg (xs.map (Value.int .i64)).toArray) (.agg (xs.map (Value.int .i64)).toArray) : Sem Value).run Tryd.prog w = .ok (.bool false) w := by
  have h1 : (eqGuard .neq 31 p q (.agg (xs.map (Value.int .i64)).toArray) (.agg (xs.map (Value.int .i64)).toArray)).run Tryd.prog w = .ok () w := by
    simp [eqGuard, guardRegs]
  obtain ⟨i, hi⟩ := Option.isSome_iff_exists.1 infoI64S
  have h2 : (Op.equal 31 (.agg (xs.map (Value.int .i64)).toArray) (.agg (xs.map (Value.int .i64)).toArray)).run Tryd.prog w = .ok true w := by
    unfold Op.equal Op.maxDepth
    rw [run_equalIn_array w 9999 _ _ uRegs hi, cellsI64]
    exact run_itemsI w 9998 xs _ (fun j hj => by simp at hj; omega)
  rw [Sem.run_bind, h1]
  simp [binOp, h2]
/-- two machines alike -/
def RetTrue (w : World) (e : Ending) (w' : World) : Prop := e = .returned (.bool true) ∧ Below w.heap.size w w'
set_option maxHeartbeats 1000000 in
set_option maxRecDepth 100000 in
theorem alike_calls (w : World) (A A2 : Option Addr) (c c2 : Nat) (m : Mach) (hl : m.r.length = 8) (hA : RWd w w.heap.size A m.mem) (hA2 : RWd w w.heap.size A2 m.mem) (hm8 : m.mem.length ≤ 140737488351232) :
    Calls Tryd.prog 10 #[mv m A c, mv m A2 c2] w (RetTrue w) := by
  have HA := Lib.hid hA
  have HA2 := Lib.hid hA2
  have HL := Lib.hid hl
  clear hA hA2 hl
  go_enter Tryd.func10, Tryd.ntmps10
  go_wp2_with ((with_reducible show wpList _ _ _ (Oper.mk _ (Op.box _ _) _ _ _ _ :: _) _ _); refine wpList_boxS rfl _ rfl (mcs m A c) rfl ?_)
  intro w1 hb1 hg1 hs1
  have HB1 := Lib.hid hb1
  have HG1 := Lib.hid hg1
  have HS1 := Lib.hid hs1
  clear hb1 hg1 hs1
  go_wp2_with ((with_reducible show wpList _ _ _ (Oper.mk _ (Op.box _ _) _ _ _ _ :: _) _ _); refine wpList_boxS rfl _ rfl (mcs m A2 c2) rfl ?_)
  intro w2 hb2 hg2 hs2
  obtain ⟨B0, hB0⟩ : ∃ B0, B0 = w.heap.size := ⟨_, rfl⟩
  obtain ⟨B1, hB1⟩ : ∃ B1, B1 = w1.heap.size := ⟨_, rfl⟩
  have hb12 := HB1.out.gn hg2
  rw [← hB0] at hb12
  rw [← hB1] at hb2
  rw [← hB0, ← hB1]
  have hbw : Below w.heap.size w w2 := gbelow (HG1.out.trans hg2)
  have HBW := Lib.hid hbw
  have HB0 := Lib.hid hb12
  have HB1' := Lib.hid hb2
  clear hg2 hs2 hbw HB1 HG1 HS1 hB0 hB1 hb12 hb2
  obtain ⟨r0, r1, r2, r3, r4, r5, r6, r7, hr⟩ : ∃ r0 r1 r2 r3 r4 r5 r6 r7, m.r = [r0, r1, r2, r3, r4, r5, r6, r7] := by
    obtain ⟨p, r, me, s, t⟩ := m
    have hl := HL.out
    simp only at hl
    match r, hl with
    | [r0, r1, r2, r3, r4, r5, r6, r7], _ => exact ⟨r0, r1, r2, r3, r4, r5, r6, r7, rfl⟩
  obtain ⟨n, hn⟩ : ∃ n, n = m.mem.length := ⟨_, rfl⟩
  have k0 : w2.cell? ⟨B0, 0, none⟩ = some (.int .i64 m.place) := HB0.out.cell rfl
  have k1 : w2.cell? ⟨B0, 1, none⟩ = some (.int .i64 r0) := HB0.out.cell (by unfold mcs; rw [hr]; rfl)
  have k2 : w2.cell? ⟨B0, 2, none⟩ = some (.int .i64 r1) := HB0.out.cell (by unfold mcs; rw [hr]; rfl)
  have k3 : w2.cell? ⟨B0, 3, none⟩ = some (.int .i64 r2) := HB0.out.cell (by unfold mcs; rw [hr]; rfl)
  have k4 : w2.cell? ⟨B0, 4, none⟩ = some (.int .i64 r3) := HB0.out.cell (by unfold mcs; rw [hr]; rfl)
  have k5 : w2.cell? ⟨B0, 5, none⟩ = some (.int .i64 r4) := HB0.out.cell (by unfold mcs; rw [hr]; rfl)
  have k6 : w2.cell? ⟨B0, 6, none⟩ = some (.int .i64 r5) := HB0.out.cell (by unfold mcs; rw [hr]; rfl)
  have k7 : w2.cell? ⟨B0, 7, none⟩ = some (.int .i64 r6) := HB0.out.cell (by unfold mcs; rw [hr]; rfl)
  have k8 : w2.cell? ⟨B0, 8, none⟩ = some (.int .i64 r7) := HB0.out.cell (by unfold mcs; rw [hr]; rfl)
  have k9 : w2.cell? ⟨B0, 9, none⟩ = some (.slice A n c) := by rw [hn]; exact HB0.out.cell (mcs_mem HL.out)
  have k10 : w2.cell? ⟨B0, 10, none⟩ = some (.int .i64 m.state) := HB0.out.cell (mcs_state HL.out)
  have k11 : w2.cell? ⟨B0, 11, none⟩ = some (.int .i64 m.trap) := HB0.out.cell (mcs_trap HL.out)
  have q0 : w2.cell? ⟨B1, 0, none⟩ = some (.int .i64 m.place) := HB1'.out.cell rfl
  have q1 : w2.cell? ⟨B1, 1, none⟩ = some (.int .i64 r0) := HB1'.out.cell (by unfold mcs; rw [hr]; rfl)
  have q2 : w2.cell? ⟨B1, 2, none⟩ = some (.int .i64 r1) := HB1'.out.cell (by unfold mcs; rw [hr]; rfl)
  have q3 : w2.cell? ⟨B1, 3, none⟩ = some (.int .i64 r2) := HB1'.out.cell (by unfold mcs; rw [hr]; rfl)
  have q4 : w2.cell? ⟨B1, 4, none⟩ = some (.int .i64 r3) := HB1'.out.cell (by unfold mcs; rw [hr]; rfl)
  have q5 : w2.cell? ⟨B1, 5, none⟩ = some (.int .i64 r4) := HB1'.out.cell (by unfold mcs; rw [hr]; rfl)
  have q6 : w2.cell? ⟨B1, 6, none⟩ = some (.int .i64 r5) := HB1'.out.cell (by unfold mcs; rw [hr]; rfl)
  have q7 : w2.cell? ⟨B1, 7, none⟩ = some (.int .i64 r6) := HB1'.out.cell (by unfold mcs; rw [hr]; rfl)
  have q8 : w2.cell? ⟨B1, 8, none⟩ = some (.int .i64 r7) := HB1'.out.cell (by unfold mcs; rw [hr]; rfl)
  have q9 : w2.cell? ⟨B1, 9, none⟩ = some (.slice A2 n c2) := by rw [hn]; exact HB1'.out.cell (mcs_mem HL.out)
  have q10 : w2.cell? ⟨B1, 10, none⟩ = some (.int .i64 m.state) := HB1'.out.cell (mcs_state HL.out)
  have q11 : w2.cell? ⟨B1, 11, none⟩ = some (.int .i64 m.trap) := HB1'.out.cell (mcs_trap HL.out)
  have hneq := fun (w : World) (p q : Operand) => run_neq_regs w p q [r0, r1, r2, r3, r4, r5, r6, r7] rfl
  simp only [List.map_cons, List.map_nil] at hneq
  rw [← hn] at hm8
  have HRA := Lib.hid ((HA.out.below HBW.out).mono HBW.out.size)
  have HRB := Lib.hid ((HA2.out.below HBW.out).mono HBW.out.size)
  have HN := Lib.hid hn
  clear hn hr HA HA2
  have HNQ := Lib.hid hneq
  clear hneq
  go_wp2_with ((with_reducible show wpList _ _ _ (Oper.mk _ (Op.binOp BinOp.neq 31 _ _ _) _ _ _ _ :: _) _ _); refine wpList_binV (by rfl) _ _ _ _ _ rfl (.bool false) (HNQ.out _ _ _) ?_)
  clear k0 k1 k2 k3 k4 k5 k6 k7 k8 k10 k11 q0 q1 q2 q3 q4 q5 q6 q7 q8 q10 q11
  go_loopw [5] (fun s5 wr => ∃ (i : Nat), i ≤ n ∧ s5 = .int .i64 i ∧ Hid (∃ N, wr = w2.drewN N)) (fun s5 _ => n - (intOf s5).toNat)
  case atStart => exact ⟨0, Nat.zero_le _, rfl, Lib.hid ⟨0, rfl⟩⟩
  case round =>
    obtain ⟨i, hi, rfl, HW⟩ := hrel
    obtain ⟨N, rfl⟩ := HW.out
    by_cases hlt : i < n
    · have him : i < m.mem.length := by rw [← HN.out]; exact hlt
      obtain ⟨b, o, hA, hb, hc1⟩ := HRA.out.get him
      obtain ⟨b', o', hA', hb', hc2⟩ := HRB.out.get him
      subst hA
      subst hA'
      obtain ⟨v, hv⟩ : ∃ v, v = m.mem[i] := ⟨_, rfl⟩
      rw [← hv] at hc1 hc2
      clear hv him hb hb' HRA HRB
      go_wp2
      go_quiet (fail)
      go_wp2
      go_roundw
      case rel => exact ⟨i + 1, by omega, by go_num, Lib.hid ⟨_, rfl⟩⟩
      case measure => simp [intOf]; omega
    · clear HRA HRB
      go_wp2
      go_ret
      exact ⟨rfl, below_drewN' HBW.out _⟩
end Go.Proofs.YtlecpekgnlaneaaDoor
