/- octet's reader: Read, Left, At, fail. -/
import Derived.Test.YtlecpekgnlaneaaDoorRdr
import Derived.Test.YtlecpekgnlaneaaDoorStoreB
import Derived.Test.YtlecpekgnlaneaaDoorVal
import Derived.RegionTactic
import Derived.ChangeAlike
import Derived.Deep.QuietTactic
import Derived.BigQuiet
namespace Go.Proofs.YtlecpekgnlaneaaDoor
open Go.RowKit Nac
def RetRd (w : World) (l : List UInt8) (e : Ending) (w' : World) : Prop := ∃ b A c, e = .returned (.pointer (some ⟨b, 0, none⟩)) ∧ RdM w' b A c ⟨l, 0, 0⟩ ∧ w.heap.size ≤ b ∧ Below w.heap.size w w'
set_option maxHeartbeats 1000000 in
theorem read_calls (w : World) (B : Nat) (A : Option Addr) (c : Nat) (l : List UInt8) (h : RB w B A l) (hB : B ≤ w.heap.size) (h8 : l.length ≤ 140737488351232) :
    Calls Tryd.prog 22 #[.slice A l.length c] w (RetRd w l) := by
  go_enter Tryd.func22, Tryd.ntmps22
  go_wp2_with (at_builtin; refine wpList_app_bytes _ rfl _ _ rfl w.heap.size none 0 [] _ rfl rfl (OB.nil _ _) A c l _ rfl rfl h (by simp; omega) (Nat.le_refl _) ?_)
  intro A' c' L w1 HL ho hg _
  have hL : L = l := HL.out
  subst hL
  have HO := Lib.hid ho
  have HG : Hid (Below w.heap.size w w1) := (Below.refl _ _).grown hg (Nat.le_refl _) (fun k e => by cases e)
  clear HL ho hg
  go_wp2
  go_ret
  have hrb := HO.out.rb
  refine ⟨w1.heap.size, A', c', rfl, ⟨Blk.new w1 _ _, hrb.below ((Below.refl _ _).alloc (Nat.le_refl _) _), HO.out.len, Nat.zero_le _⟩, HG.out.size, HG.out.alloc HG.out.size _⟩
theorem left_calls (w : World) (b : Nat) (A : Option Addr) (c : Nat) (r : Rdr) (h : RdM w b A c r) (h8 : r.l.length ≤ 140737488351232) :
    Calls Tryd.prog 40 #[.pointer (some ⟨b, 0, none⟩)] w fun e w' => e = .returned (.int .i64 r.left) ∧ w.drew = w' := by
  have c0 : w.cell? ⟨b, 0, none⟩ = some (.slice A r.l.length c) := h.blk.cell rfl
  have c1 : w.cell? ⟨b, 1, none⟩ = some (.int .i64 r.pos) := h.blk.cell rfl
  have hp := h.pos
  have hl : ((r.left : Nat) : Int) = (r.l.length : Int) - r.pos := by unfold Rdr.left; omega
  have HL := Lib.hid hl
  clear hl
  go_enter Tryd.func40, Tryd.ntmps40
  go_wp2
  go_region
  all_goals
    go_wp2
    go_ret
    rw [HL.out]
    exact ⟨rfl, rfl⟩
theorem fail_calls (w : World) (b : Nat) (A : Option Addr) (c : Nat) (r : Rdr) (h : RdM w b A c r) (k : Nat) :
    Calls Tryd.prog 37 #[.pointer (some ⟨b, 0, none⟩), .int .i64 k] w fun e w' => e = .returned (.tuple #[]) ∧ RdM w' b A c (r.fail k) ∧ w.grownBy w' (some b) := by
  have c2 : w.cell? ⟨b, 2, none⟩ = some (.int .i64 r.code) := h.blk.cell rfl
  have f2 := h.blk.free 2
  by_cases hc : r.code = 0
  · have e0 : ((r.code : Int) == 0) = true := by rw [hc]; rfl
    have e1 : (r.code : Int) = 0 := by omega
    have hf : r.fail k = { r with code := k } := if_pos hc
    have HF := Lib.hid hf
    have HM := Lib.hid h
    clear hf hc h
    go_enter Tryd.func37, Tryd.ntmps37
    go_wp2
    go_end0
    rw [HF.out]
    have h2 := HM.out.blk.setCell 2 (.int .i64 (k : Int))
    have hg : w.grownBy (w.setCell ⟨b, 2, none⟩ (.int .i64 (k : Int))) (some b) := grown_setCell w ⟨b, 2, none⟩ _
    exact ⟨rfl, ⟨h2, HM.out.rb.below ((Below.refl b w).grown hg (Nat.le_of_lt HM.out.blk.lt) (fun k e => by injection e with e; omega)), HM.out.cap, HM.out.pos⟩, hg⟩
  · have e0 : ((r.code : Int) == 0) = false := by rw [beq_eq_false_iff_ne]; omega
    have e1 : ¬ (r.code : Int) = 0 := by omega
    have hf : r.fail k = r := if_neg hc
    have HF := Lib.hid hf
    have HM := Lib.hid h
    clear hf hc h
    go_enter Tryd.func37, Tryd.ntmps37
    go_wp2
    go_end0
    rw [HF.out]
    exact ⟨rfl, HM.out, World.grownBy.refl w _⟩
end Go.Proofs.YtlecpekgnlaneaaDoor
