/- Send. -/
import Derived.Test.YtdjphdkoljfndaaPortRemove
import Derived.Test.YtdjphdkoljfndaaMonoP
namespace Go.Proofs.Ytdjphdkoljfndaa
open Go.RowKit Nac
def RetSend (w : World) (b : Nat) (C : Ch) (l : List UInt8) (now : Nat) (e : Ending) (w' : World) : Prop :=
  e = .returned (.int .i64 (C.send l now).2) ∧ (∃ f', f' < 16 ∧ Blk w' b (ccells (C.send l now).1 f')) ∧ w.grownBy w' (some b)
set_option maxHeartbeats 2000000 in
theorem send_long (w : World) (b : Nat) (C : Ch) (f : Nat) (A : Option Addr) (c : Nat) (l : List UInt8) (now : Nat) (hC : C.ok) (hf : f < 16) (h : Blk w b (ccells C f)) (h8 : l.length ≤ 140737488351232) (hl : C.size < l.length) :
    Calls Try.prog 10 #[.pointer (some ⟨b, 0, none⟩), .slice A l.length c, .int .u64 now] w (RetSend w b C l now) := by
  have hs : C.send l now = (C, 1) := by unfold Ch.send; rw [if_pos hl]
  have HS := Lib.hid hs; clear hs
  have c2 : w.cell? ⟨b, 2, none⟩ = some (.int .i64 C.size) := h.cell rfl
  go_enter Try.func10, Try.ntmps10
  go_wp2
  go_ret
  unfold RetSend
  rw [HS.out]
  exact ⟨rfl, ⟨f, hf, h⟩, World.grownBy.refl w _⟩
set_option maxHeartbeats 2000000 in
theorem send_full1 (w : World) (b : Nat) (C : Ch) (f : Nat) (A : Option Addr) (c : Nat) (l : List UInt8) (now : Nat) (hC : C.ok) (hf : f < 16) (h : Blk w b (ccells C f)) (h8 : l.length ≤ 140737488351232) (hl : l.length ≤ C.size) (hq : C.q.length = C.most) (hk : C.kind = 1) :
    Calls Try.prog 10 #[.pointer (some ⟨b, 0, none⟩), .slice A l.length c, .int .u64 now] w (RetSend w b C l now) := by
  have hs : C.send l now = (C, 5) := by unfold Ch.send; rw [if_neg (by omega), if_pos hq, if_pos hk]
  have HS := Lib.hid hs; clear hs
  have c2 : w.cell? ⟨b, 2, none⟩ = some (.int .i64 C.size) := h.cell rfl
  have c4 : w.cell? ⟨b, 4, none⟩ = some (.int .i64 C.q.length) := h.cell rfl
  have c1 : w.cell? ⟨b, 1, none⟩ = some (.int .i64 C.most) := h.cell rfl
  have c0 : w.cell? ⟨b, 0, none⟩ = some (.int .i64 C.kind) := h.cell rfl
  rw [hq] at c4
  rw [hk] at c0
  have HB := Lib.hid h; clear h hq hk
  go_enter Try.func10, Try.ntmps10
  go_wp2
  go_region
  all_goals
    go_wp2
    go_ret
    unfold RetSend
    rw [HS.out]
    exact ⟨rfl, ⟨f, hf, HB.out⟩, grown_drew (World.grownBy.refl w _)⟩
set_option maxHeartbeats 2000000 in
theorem send_full2 (w : World) (b : Nat) (C : Ch) (f : Nat) (A : Option Addr) (c : Nat) (l : List UInt8) (now : Nat) (hC : C.ok) (hf : f < 16) (h : Blk w b (ccells C f)) (h8 : l.length ≤ 140737488351232) (hl : l.length ≤ C.size) (hq : C.q.length = C.most) (hk : C.kind = 2) :
    Calls Try.prog 10 #[.pointer (some ⟨b, 0, none⟩), .slice A l.length c, .int .u64 now] w (RetSend w b C l now) := by
  have hs : C.send l now = ({ C with lost := if C.lost < 18446744073709551615 then C.lost + 1 else C.lost }, 0) := by unfold Ch.send; rw [if_neg (by omega), if_pos hq, if_neg (by omega), if_pos hk]
  have HS := Lib.hid hs; clear hs
  have hlo := hC.lost
  have c2 : w.cell? ⟨b, 2, none⟩ = some (.int .i64 C.size) := h.cell rfl
  have c4 : w.cell? ⟨b, 4, none⟩ = some (.int .i64 C.q.length) := h.cell rfl
  have c1 : w.cell? ⟨b, 1, none⟩ = some (.int .i64 C.most) := h.cell rfl
  have c0 : w.cell? ⟨b, 0, none⟩ = some (.int .i64 C.kind) := h.cell rfl
  have c5 : w.cell? ⟨b, 5, none⟩ = some (.int .u64 C.lost) := h.cell rfl
  have f5 := h.free 5
  rw [hq] at c4
  rw [hk] at c0
  have HB := Lib.hid h; clear h hq hk
  obtain ⟨lo, hloe⟩ : ∃ lo : Int, Hid (lo = (C.lost : Int)) := ⟨_, rfl⟩
  rw [← hloe.out] at c5
  have g0 : 0 ≤ lo := by have := hloe.out; omega
  have g1 : lo ≤ 18446744073709551615 := by have := hloe.out; omega
  clear hlo
  by_cases hlt : C.lost < 18446744073709551615
  · have g2 : lo < 18446744073709551615 := by have := hloe.out; omega
    have HLT := Lib.hid hlt; clear hlt
    go_enter Try.func10, Try.ntmps10
    go_wp2
    go_region
    all_goals
      go_wp2
      go_ret
      unfold RetSend
      rw [HS.out, if_pos HLT.out]
      refine ⟨rfl, ⟨f, hf, ?_⟩, grown_drew (grown_setCell _ _ _)⟩
      rw [hloe.out]
      exact HB.out.setCell 5 (.int .u64 ((C.lost : Int) + 1))
  · have g2 : 18446744073709551615 ≤ lo := by have := hloe.out; omega
    have HLT := Lib.hid hlt; clear hlt
    go_enter Try.func10, Try.ntmps10
    go_wp2
    go_region
    all_goals
      go_wp2
      go_ret
      unfold RetSend
      rw [HS.out, if_neg HLT.out]
      exact ⟨rfl, ⟨f, hf, HB.out⟩, grown_drew (World.grownBy.refl w _)⟩
end Go.Proofs.Ytdjphdkoljfndaa
