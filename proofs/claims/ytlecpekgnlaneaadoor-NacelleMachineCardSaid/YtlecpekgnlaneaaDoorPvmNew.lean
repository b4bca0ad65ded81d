/- pvm: New, few, short. -/
import Derived.Test.YtlecpekgnlaneaaDoorPvmRun
import Derived.Lib.MinMax
namespace Go.Proofs.YtlecpekgnlaneaaDoor
open Go.RowKit Nac Nac.Pvm
def RetMach (w : World) (m : Mach) (e : Ending) (w' : World) : Prop :=
  ∃ A c, e = .returned (mv m A c) ∧ m.r.length = 8 ∧ OW w' w.heap.size A c m.mem ∧ Below w.heap.size w w'
def newM (n : Nat) : Mach := ⟨0, [0, 0, 0, 0, 0, 0, 0, 0], List.replicate n 0, 0, 0⟩
def room (words : Int) : Nat := if words ≤ 0 then 0 else if 64 ≤ words then 64 else words.toNat
set_option maxHeartbeats 1000000 in
theorem New_calls (w : World) (words : Int) : Calls Tryd.prog 8 #[.int .i64 words] w (RetMach w (newM (room words))) := by
  go_enter Tryd.func8, Tryd.ntmps8
  go_wp2_with ((with_reducible show wpList _ _ _ (Oper.mk _ (Op.alloc 35) _ _ _ _ :: _) _ _); refine wpList_allocS _ zMach rfl rfl ?_)
  intro w1 hb1 hg1 hs1
  have HB1 := Lib.hid hb1
  have HG1 := Lib.hid hg1
  have HS1 := Lib.hid hs1
  clear hb1 hg1 hs1
  have hn : max 0 (min words 64) = (room words : Int) ∧ room words ≤ 64 := by
    unfold room
    constructor
    · split
      · omega
      · split <;> omega
    · split
      · omega
      · split <;> omega
  obtain ⟨n, hnn⟩ : ∃ n, n = room words := ⟨_, rfl⟩
  rw [← hnn] at hn
  have HN := Lib.hid hn
  have HNN := Lib.hid hnn
  clear hn hnn
  go_wp2_with ((with_reducible show wpList _ _ _ (Oper.mk _ (Op.makeSlice _ _ _) _ _ _ _ :: _) _ _); refine wpList_makeN_words w1 rfl _ _ rfl w.heap.size _ _ _ n rfl rfl HN.out.1 (by have := HN.out.2; omega) HG1.out.size ?_)
  intro w2 L HL ho hg2
  have HO := Lib.hid ho
  have HG2 := Lib.hid hg2
  have HB2 := Lib.hid (HB1.out.gn hg2)
  clear ho hg2 HB1
  have e1 : (mcs (newM n) (some ⟨w1.heap.size, 0, none⟩) n) = [.int .i64 0, .int .i64 0, .int .i64 0, .int .i64 0, .int .i64 0, .int .i64 0, .int .i64 0, .int .i64 0, .int .i64 0, .slice (some ⟨w1.heap.size, 0, none⟩) n n, .int .i64 0, .int .i64 0] := by simp [mcs, newM]
  have HE1 := Lib.hid e1
  clear e1
  go_wp2_with ((with_reducible show wpList _ _ _ (Oper.mk _ (Op.store 35 _ _) _ _ _ _ :: _) _ _); refine wpList_storeS sMach rfl _ _ rfl w.heap.size (mcs zM none 0) (mcs (newM n) (some ⟨w1.heap.size, 0, none⟩) n) rfl (by rw [HE1.out]; rfl) HB2.out rfl rfl (mcs_one _ _ _) ?_)
  intro w3 hb3 hg3
  have l1 : Hid ((loadVar 35 ⟨w.heap.size, 0, none⟩).run Tryd.prog w3 = .ok (mv (newM n) (some ⟨w1.heap.size, 0, none⟩) n) w3) := Lib.hid (run_loadS sMach _ _ hb3 rfl)
  have HG3 := Lib.hid hg3
  clear hb3 hg3
  go_wp2
  have hs1 := HS1.out
  exact bodyPost_ret (v := mv (newM n) (some ⟨w1.heap.size, 0, none⟩) n) (by simp [results, Tryd.results8, asAddr, Sem.run_bind, Sem.run_pure, l1.out]) rfl
    ⟨some ⟨w1.heap.size, 0, none⟩, n, by rw [HNN.out], rfl, by
      rw [← HNN.out]
      have hL : L = List.replicate n 0 := HL.out
      subst hL
      exact HO.out.kept HG3.out (.inr (by intro e; injection e with e; have e2 : w1.heap.size = w.heap.size := e; omega)), ((gbelow HG1.out).grown HG2.out HG1.out.size (fun j e => by cases e)).grown HG3.out (Nat.le_trans HG1.out.size HG2.out.size) (fun j e => by injection e with e; omega)⟩
end Go.Proofs.YtlecpekgnlaneaaDoor
