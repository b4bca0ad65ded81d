/- fault.Path of a fault without a cause. -/
import Derived.Test.YtlecpekgnlaneaaDoorFault
import Derived.Test.YtlecpekgnlaneaaDoorOwnI
namespace Go.Proofs.YtlecpekgnlaneaaDoor
open Go.RowKit Nac
def RetP (w : World) (i : Int) (e : Ending) (w' : World) : Prop := ∃ (gp : Nat) (c : Nat), e = .returned (.slice (some ⟨gp, 0, none⟩) 1 c) ∧ w'.cell? ⟨gp, 0, none⟩ = some (.int .i64 i) ∧ gp < w'.heap.size ∧ Below w.heap.size w w'
theorem path_hit (w : World) (g : Nat) (c i : Int) (hg : Hdl w) (hx : Box w g [.int .i64 c, .int .i64 i, .nilIface]) :
    Calls Tryd.prog 9 #[.iface 58 (.pointer (some ⟨g, 0, none⟩))] w (RetP w i) := by
  go_enter Tryd.func9, Tryd.ntmps9
  go_wp2_with fail
  refine (outer_hit w g hg).mono ?_
  rintro e w2 ⟨rfl, hb2⟩
  have hx2 := hx.below hb2 hx.lt
  have c1 : w2.cell? ⟨g, 1, none⟩ = some (.int .i64 i) := hx2.cell rfl
  have HB := Lib.hid hb2
  have HX := Lib.hid hx2
  have hx0 := hx.lt
  clear hb2 hx hx2
  go_wp2_with fail
  have hH : Hdl w2 := hg.below HB.out hg.lt
  have HH := Lib.hid hH
  clear hH
  have hglt : g < w2.heap.size := HX.out.lt
  have hgw : g < w.heap.size := hx0
  go_loopw [3, 4] (fun s3 s4 wr => Hid (Below w.heap.size w wr) ∧ Hid (Box wr g [.int .i64 c, .int .i64 i, .nilIface]) ∧ ((s3 = .slice none 0 0 ∧ s4 = .pointer (some ⟨g, 0, none⟩)) ∨ (∃ (gp cp : Nat), s3 = .slice (some ⟨gp, 0, none⟩) 1 cp ∧ s4 = .pointer none ∧ Hid (wr.cell? ⟨gp, 0, none⟩ = some (.int .i64 i)) ∧ Hid (gp < wr.heap.size)))) (fun _ s4 _ => match s4 with | .pointer (some _) => 1 | _ => 0)
  case atStart => exact ⟨HB, HX, .inl ⟨rfl, rfl⟩⟩
  case round =>
    clear HB HX HH c1 hglt
    obtain ⟨HB, HX, ⟨rfl, rfl⟩ | ⟨gp, cp, rfl, rfl, HC, HG⟩⟩ := hrel
    · have c1 : wr.cell? ⟨g, 1, none⟩ = some (.int .i64 i) := HX.out.cell rfl
      have csrc : (wr.alloc (.cells #[.int .i64 i] 3)).cell? ⟨wr.heap.size, 0, none⟩ = some (.int .i64 i) := by rw [World.cell?_alloc_at _ _ _ _ rfl]; rfl
      have HCS := Lib.hid csrc
      have hbs : wr.heap.size ≤ (wr.alloc (.cells #[.int .i64 i] 3)).heap.size := by simp
      clear csrc
      go_wp2_with (at_builtin; refine wpList_app_int _ rfl _ _ rfl wr.heap.size none 0 [] _ rfl rfl (OI.nil _ _) wr.heap.size _ i rfl HCS.out (by simp) hbs ?_)
      rintro A' c' L' w5 HLE ho5 hg5
      have hL : L' = [i] := HLE.out
      subst hL
      obtain ⟨gp, o, rfl, hgp, hcell⟩ := ho5.ri.get (k := 0) (by simp)
      have ho0 : o = 0 := by
        rcases ho5.2 with ⟨hv, hn⟩ | ⟨g', cap, cur, hv, _⟩
        · simp at hn
        · injection hv with h1; injection h1 with h1; injection h1
      subst ho0
      have hba : Below w.heap.size w (wr.alloc (.cells #[.int .i64 i] 3)) := HB.out.alloc HB.out.size _
      have hg6 : (wr.alloc (.cells #[.int .i64 i] 3)).grownBy w5 none := hg5
      have HB5 : Hid (Below w.heap.size w w5) := hba.grown hg6 hba.size (fun k e => by cases e)
      have hw5 : Below wr.heap.size wr w5 := ((Below.refl _ _).alloc (Nat.le_refl _) _).grown hg6 hbs (fun k e => by cases e)
      have hx5 : Box w5 g [.int .i64 c, .int .i64 i, .nilIface] := HX.out.below hw5 HX.out.lt
      have HX5 := Lib.hid hx5
      have c2 : w5.cell? ⟨g, 2, none⟩ = some .nilIface := hx5.cell rfl
      have HC5 : Hid (w5.cell? ⟨gp, 0, none⟩ = some (.int .i64 i)) := Lib.hid <| by simpa using hcell
      have HG5 := Lib.hid hgp
      clear HLE ho5 hgp hcell hg5 hba hg6 hw5 hx5 hbs HCS HB HX c1
      go_wp2_with fail
      refine (outer_nil _).mono ?_
      rintro e w6 ⟨rfl, hb6⟩
      have HB6 : Hid (Below w.heap.size w w6) := HB5.out.trans (hb6.mono HB5.out.size)
      have HX6 : Hid (Box w6 g [.int .i64 c, .int .i64 i, .nilIface]) := HX5.out.below hb6 HX5.out.lt
      have HC6 : Hid (w6.cell? ⟨gp, 0, none⟩ = some (.int .i64 i)) := (hb6.cell (p := ⟨gp, 0, none⟩) HG5.out).trans HC5.out
      have HG6 : Hid (gp < w6.heap.size) := Nat.lt_of_lt_of_le HG5.out hb6.size
      clear hb6 HB5 HX5 HC5 HG5 c2
      go_wp2
      go_roundw
      case rel => exact ⟨HB6, HX6, .inr ⟨gp, c', rfl, rfl, HC6, HG6⟩⟩
      case measure => simp
    · go_wp2
      go_ret
      exact ⟨gp, cp, rfl, HC.out, HG.out, HB.out⟩
end Go.Proofs.YtlecpekgnlaneaaDoor
