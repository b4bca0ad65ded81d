/- fault.Code of a fault without a cause. -/
import Derived.Test.YtlecpekgnlaneaaDoorAs
import Derived.Test.YtlecpekgnlaneaaDoorHdl
import Derived.Test.YtlecpekgnlaneaaDoorBoxF
namespace Go.Proofs.YtlecpekgnlaneaaDoor
open Go.RowKit Nac
theorem as_hit_b (e t : Addr) (old : Value) (w : World) (B : Nat) (hg : Hdl w) (ht0 : w.cell? t = some old) (hf0 : w.frozen? t = false) (hB : B ≤ t.block) (hB2 : B ≤ w.heap.size) (htl : t.block < w.heap.size) :
    Calls Tryd.prog 36 #[.iface 58 (.pointer (some e)), .iface 75 (.pointer (some t))] w fun ev w' => ev = .returned (.bool true) ∧ Below B w w' ∧ w'.cell? t = some (.pointer (some e)) := by
  refine (as_hit e t old w hg ht0 hf0).mono ?_
  rintro ev w' ⟨rfl, rfl⟩
  refine ⟨rfl, ?_, ?_⟩
  · refine Below.setCell ?_ hB _
    exact ((((Below.refl _ _).alloc hB2 _).alloc (by simp; omega) _).alloc (by simp; omega) _).alloc (by simp; omega) _
  · refine World.cell?_setCell_same _ _ _ (u := old) ?_
    rw [World.cell?_alloc_lt _ _ t (by simp; omega), World.cell?_alloc_lt _ _ t (by simp; omega), World.cell?_alloc_lt _ _ t (by simp; omega), World.cell?_alloc_lt _ _ t htl]
    exact ht0
theorem outer_hit (w : World) (g : Nat) (hg : Hdl w) :
    Calls Tryd.prog 21 #[.iface 58 (.pointer (some ⟨g, 0, none⟩))] w fun e w' => e = .returned (.pointer (some ⟨g, 0, none⟩)) ∧ Below w.heap.size w w' := by
  have hl := hg.lt
  go_enter Tryd.func21, Tryd.ntmps21
  go_wp2_with fail
  have hb : Below w.heap.size w (w.alloc (.cells #[.pointer none] 58)) := (Below.refl _ _).alloc (Nat.le_refl _) _
  have hx : Box (w.alloc (.cells #[.pointer none] 58)) w.heap.size [.pointer none] := Box.new w _ _
  obtain ⟨t, ht⟩ := hx
  refine (as_hit_b ⟨g, 0, none⟩ ⟨w.heap.size, 0, none⟩ (.pointer none) _ w.heap.size (hg.below hb hl) (Box.cell ⟨t, ht⟩ rfl) (frozen_of_row _ _ 0 _ t ht) (Nat.le_refl _) hb.size (by simp)).mono ?_
  rintro e w2 ⟨rfl, hb2, hc2⟩
  have HB : Hid (Below w.heap.size w w2) := hb.trans hb2
  clear hb hb2 ht
  go_wp2
  go_ret
  exact ⟨rfl, HB.out⟩
theorem outer_nil (w : World) :
    Calls Tryd.prog 21 #[.nilIface] w fun e w' => e = .returned (.pointer none) ∧ Below w.heap.size w w' := by
  go_enter Tryd.func21, Tryd.ntmps21
  go_wp2_with fail
  refine (as_nil _ _).mono ?_
  rintro e w2 ⟨rfl, rfl⟩
  go_wp2
  go_ret
  exact ⟨rfl, (Below.refl _ _).alloc (Nat.le_refl _) _⟩
theorem code_hit (w : World) (g : Nat) (c i : Int) (hg : Hdl w) (hx : Box w g [.int .i64 c, .int .i64 i, .nilIface]) :
    Calls Tryd.prog 31 #[.iface 58 (.pointer (some ⟨g, 0, none⟩))] w fun e w' => e = .returned (.int .i64 c) ∧ Below w.heap.size w w' := by
  go_enter Tryd.func31, Tryd.ntmps31
  go_wp2_with fail
  refine (outer_hit w g hg).mono ?_
  rintro e w2 ⟨rfl, hb2⟩
  have hx2 := hx.below hb2 hx.lt
  have c0 : w2.cell? ⟨g, 0, none⟩ = some (.int .i64 c) := hx2.cell rfl
  have HB := Lib.hid hb2
  clear hb2 hx hx2
  go_wp2
  go_ret
  exact ⟨rfl, HB.out⟩
end Go.Proofs.YtlecpekgnlaneaaDoor
