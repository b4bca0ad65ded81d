/- remove: the first message goes. -/
import Derived.Test.YtdjphdkoljfndaaPortOps
namespace Go.Proofs.Ytdjphdkoljfndaa
open Go.RowKit Nac
set_option maxHeartbeats 2000000 in
theorem remove_calls (w : World) (b : Nat) (C : Ch) (f : Nat) (hC : C.ok) (hf : f < 16) (hq : C.q ≠ []) (h : Blk w b (ccells C f)) :
    Calls Try.prog 20 #[.pointer (some ⟨b, 0, none⟩)] w fun e w' => e = .returned (.tuple #[]) ∧ Blk w' b (ccells { C with q := C.q.tail } ((f + 1) % 16)) ∧ w.grownBy w' (some b) := by
  have h3 : w.cell? ⟨b, 3, none⟩ = some (.int .i64 f) := h.cell rfl
  have hlen := ccells_len C hC f
  have hq16 : C.q.length ≤ 16 := Nat.le_trans hC.len hC.most
  have hq1 : 1 ≤ C.q.length := by cases hh : C.q with | nil => exact absurd hh hq | cons => simp
  obtain ⟨n, hn⟩ : ∃ n, n = C.q.length := ⟨_, rfl⟩
  have hst := ccells_store C hC f f hf zmsg (by simp [zmsg])
  rw [ring_drop f C.q hf hq16 hq, ← hn] at hst
  obtain ⟨R, hR⟩ : ∃ R, R = (ringL ((f + 1) % 16) C.q.tail).flatten := ⟨_, rfl⟩
  rw [← hR] at hst
  have hfin : ccells { C with q := C.q.tail } ((f + 1) % 16) = hd C ((f + 1) % 16) (n - 1) ++ R := by
    unfold ccells
    rw [hR]
    simp [hd, hn]
  rw [hfin]
  have hn16 : n ≤ 16 := by omega
  have hn1 : 1 ≤ n := by omega
  have HST := Lib.hid hst; clear hst
  have HN := Lib.hid hn; clear hn
  clear hR hfin hq hq16 hq1
  go_enter Try.func20, Try.ntmps20
  go_wp2_with fail
  refine (at_calls w b f 0 hf (by omega) h3).mono ?_
  rintro e w' ⟨rfl, rfl⟩
  rw [Nat.add_zero, Nat.mod_eq_of_lt hf]
  have hd0 : Blk w.drew b (ccells C f) := h
  go_wp2_with (first
    | ((with_reducible show wpList _ _ _ (Oper.mk _ (Op.build _ _) _ _ _ _ :: _) _ _); refine wpList_zmsg rfl rfl ?_)
    | ((with_reducible show wpList _ _ _ (Oper.mk _ (Op.store 59 _ _) _ _ _ _ :: _) _ _); refine wpList_storeMsg rfl _ _ rfl b (6 + 66 * f) (ccells C f) (mcells zmsg) rfl rfl hd0 (mcells_len _ (by simp [zmsg])) (by omega) (mcells_one _) (hd C f n ++ R) HST.out ?_))
  intro w1 hb1 hg1
  have c3 : w1.cell? ⟨b, 3, none⟩ = some (.int .i64 f) := hb1.cell rfl
  have c4 : w1.cell? ⟨b, 4, none⟩ = some (.int .i64 n) := hb1.cell rfl
  have f3 := hb1.free 3
  have f4 := hb1.free 4
  have G := Lib.hid (grown_of_drew hg1); clear hg1
  have HB := Lib.hid hb1; clear hb1 h hd0 h3
  go_wp2
  go_end0
  refine ⟨rfl, ?_, (G.out.trans (grown_setCell _ _ _)).trans (grown_setCell _ _ _)⟩
  have := (HB.out.setCell 3 (.int .i64 (((f : Int) + 1) % 16))).setCell 4 (.int .i64 ((n : Int) - 1))
  have e : ((hd C f n ++ R).set 3 (.int .i64 (((f : Int) + 1) % 16))).set 4 (.int .i64 ((n : Int) - 1)) = hd C ((f + 1) % 16) (n - 1) ++ R := by
    rw [show ((f : Int) + 1) % 16 = (((f + 1) % 16 : Nat) : Int) by omega, show (n : Int) - 1 = ((n - 1 : Nat) : Int) by omega]
    rfl
  rw [e] at this
  exact this
end Go.Proofs.Ytdjphdkoljfndaa
