/- fault: In; Path of one fault, and of a fault with a cause. -/
import Derived.Test.YtlecpekgnlaneaaDoorFaultP
namespace Go.Proofs.YtlecpekgnlaneaaDoor
open Go.RowKit Nac
def flt (g : Nat) : Value := .iface 58 (.pointer (some ⟨g, 0, none⟩))
def RetIn (w : World) (g : Nat) (c i k : Int) (e : Ending) (w' : World) : Prop := ∃ g2, e = .returned (flt g2) ∧ Box w' g2 [.int .i64 c, .int .i64 k, flt g] ∧ Box w' g [.int .i64 c, .int .i64 i, .nilIface] ∧ Below w.heap.size w w'
theorem In_calls (w : World) (g : Nat) (c i k : Int) (hg : Hdl w) (hx : Box w g [.int .i64 c, .int .i64 i, .nilIface]) :
    Calls Tryd.prog 16 #[flt g, .int .i64 k] w (RetIn w g c i k) := by
  have HX := Lib.hid hx
  have HG := Lib.hid hg
  clear hx hg
  unfold flt
  go_enter Tryd.func16, Tryd.ntmps16
  go_wp2_with fail
  refine (code_hit w g c i HG.out HX.out).mono ?_
  rintro e w2 ⟨rfl, hb2⟩
  have HB2 := Lib.hid hb2
  have HX2 := Lib.hid (HX.out.below hb2 HX.out.lt)
  clear hb2
  go_wp2
  go_ret
  have hb3 : Below w2.heap.size w2 (w2.alloc (.cells #[.int .i64 c, .int .i64 k, flt g] 61)) := (Below.refl _ _).alloc (Nat.le_refl _) _
  exact ⟨w2.heap.size, rfl, Box.new w2 [.int .i64 c, .int .i64 k, flt g] 61, HX2.out.below hb3 HX2.out.lt, HB2.out.trans (hb3.mono HB2.out.size)⟩
def PathRel (w0 : World) (g2 g : Nat) (c k i : Int) (s3 s4 : Value) (w : World) : Prop :=
  Below w0.heap.size w0 w ∧ Box w g2 [.int .i64 c, .int .i64 k, flt g] ∧ Box w g [.int .i64 c, .int .i64 i, .nilIface] ∧
  ((s4 = .pointer (some ⟨g2, 0, none⟩) ∧ s3 = .slice none 0 0) ∨ (s4 = .pointer (some ⟨g, 0, none⟩) ∧ ∃ A cp, s3 = .slice A 1 cp ∧ OI w w0.heap.size A cp [k]) ∨ (s4 = .pointer none ∧ ∃ A cp, s3 = .slice A 2 cp ∧ OI w w0.heap.size A cp [k, i]))
def lenOf : Value → Nat
  | .slice _ n _ => n
  | _ => 0
def RetP2 (w : World) (k i : Int) (e : Ending) (w' : World) : Prop := ∃ A c, e = .returned (.slice A 2 c) ∧ RI w' w'.heap.size A [k, i] ∧ Below w.heap.size w w'
set_option maxHeartbeats 1000000 in
theorem path2_calls (w : World) (g2 g : Nat) (c k i : Int) (hg : Hdl w) (hx2 : Box w g2 [.int .i64 c, .int .i64 k, flt g]) (hx : Box w g [.int .i64 c, .int .i64 i, .nilIface]) :
    Calls Tryd.prog 9 #[flt g2] w (RetP2 w k i) := by
  have HG := Lib.hid hg
  have HX2 := Lib.hid hx2
  have HX := Lib.hid hx
  have hflt : flt g2 = .iface 58 (.pointer (some ⟨g2, 0, none⟩)) := rfl
  rw [hflt]
  clear hx2 hx hg hflt
  go_enter Tryd.func9, Tryd.ntmps9
  go_wp2_with fail
  refine (outer_hit w g2 HG.out).mono ?_
  rintro e w2 ⟨rfl, hb2⟩
  have H0 : Hid (PathRel w g2 g c k i (.slice none 0 0) (.pointer (some ⟨g2, 0, none⟩)) w2) := Lib.hid ⟨hb2, HX2.out.below hb2 HX2.out.lt, HX.out.below hb2 HX.out.lt, .inl ⟨rfl, rfl⟩⟩
  have HL2 : Hid (g2 < w.heap.size ∧ g < w.heap.size) := Lib.hid ⟨HX2.out.lt, HX.out.lt⟩
  clear hb2
  go_wp2
  go_loopw [3, 4] (fun s3 s4 wr => PathRel w g2 g c k i s3 s4 wr) (fun s3 _ _ => 2 - lenOf s3)
  case atStart => exact H0.out
  case round =>
    obtain ⟨hb, hx2, hx, ⟨rfl, rfl⟩ | ⟨rfl, A, cp, rfl, hoi⟩ | ⟨rfl, A, cp, rfl, hoi⟩⟩ := hrel
    · have HB := Lib.hid hb
      have HY2 := Lib.hid hx2
      have HY := Lib.hid hx
      have c1 : wr.cell? ⟨g2, 1, none⟩ = some (.int .i64 k) := hx2.cell rfl
      have csrc : (wr.alloc (.cells #[.int .i64 k] 3)).cell? ⟨wr.heap.size, 0, none⟩ = some (.int .i64 k) := by rw [World.cell?_alloc_at _ _ _ _ rfl]; rfl
      have HCS := Lib.hid csrc
      have hbs : wr.heap.size ≤ (wr.alloc (.cells #[.int .i64 k] 3)).heap.size := by simp
      have HBS := Lib.hid hbs
      clear csrc hb hx2 hx H0 hbs
      go_wp2_with (at_builtin; refine wpList_app_int _ rfl _ _ rfl w.heap.size none 0 [] _ rfl rfl (OI.nil _ _) wr.heap.size _ k rfl HCS.out (by simp) (Nat.le_trans HB.out.size HBS.out) ?_)
      rintro A' c' L' w5 HLE ho5 hg5
      have hL : L' = [k] := HLE.out
      subst hL
      have hba : Below wr.heap.size wr (wr.alloc (.cells #[.int .i64 k] 3)) := (Below.refl _ _).alloc (Nat.le_refl _) _
      have hg6 : (wr.alloc (.cells #[.int .i64 k] 3)).grownBy w5 none := hg5
      have hw5 : Below wr.heap.size wr w5 := hba.grown hg6 HBS.out (fun k e => by cases e)
      have HB5 : Hid (Below w.heap.size w w5) := Lib.hid (HB.out.trans (hw5.mono HB.out.size))
      have HZ2 := Lib.hid (HY2.out.below hw5 HY2.out.lt)
      have HZ := Lib.hid (HY.out.below hw5 HY.out.lt)
      have HO5 := Lib.hid ho5
      have c2 : w5.cell? ⟨g2, 2, none⟩ = some (.iface 58 (.pointer (some ⟨g, 0, none⟩))) := HZ2.out.cell rfl
      clear HLE ho5 hg5 hba hg6 hw5 c1 HY2 HY HB HBS HCS
      go_wp2_with fail
      refine (outer_hit w5 g (HG.out.below HB5.out HG.out.lt)).mono ?_
      rintro e w6 ⟨rfl, hb6⟩
      have HF : Hid (PathRel w g2 g c k i (.slice A' 1 c') (.pointer (some ⟨g, 0, none⟩)) w6) := Lib.hid
        ⟨HB5.out.trans (hb6.mono HB5.out.size), HZ2.out.below hb6 HZ2.out.lt, HZ.out.below hb6 HZ.out.lt, .inr (.inl ⟨rfl, A', c', rfl, HO5.out.below hb6 (Nat.le_refl _)⟩)⟩
      clear hb6 HZ2 HZ HO5 c2
      go_wp2
      go_roundw
      case rel => exact HF.out
      case measure => simp [lenOf]
    · have HB := Lib.hid hb
      have HY2 := Lib.hid hx2
      have HY := Lib.hid hx
      have HOI := Lib.hid hoi
      have c1 : wr.cell? ⟨g, 1, none⟩ = some (.int .i64 i) := hx.cell rfl
      have csrc : (wr.alloc (.cells #[.int .i64 i] 3)).cell? ⟨wr.heap.size, 0, none⟩ = some (.int .i64 i) := by rw [World.cell?_alloc_at _ _ _ _ rfl]; rfl
      have HCS := Lib.hid csrc
      have hbs : wr.heap.size ≤ (wr.alloc (.cells #[.int .i64 i] 3)).heap.size := by simp
      have HBS := Lib.hid hbs
      have HOA := Lib.hid (hoi.alloc (.cells #[.int .i64 i] 3))
      clear csrc hb hx2 hx H0 hbs hoi
      go_wp2_with (at_builtin; refine wpList_app_int _ rfl _ _ rfl w.heap.size A cp [k] _ rfl rfl HOA.out wr.heap.size _ i rfl HCS.out (by simp) (Nat.le_trans HB.out.size HBS.out) ?_)
      rintro A' c' L' w5 HLE ho5 hg5
      have hL : L' = [k, i] := HLE.out
      subst hL
      have hlo := HOI.out.lt
      have hl2 := HL2.out
      have hba : Below wr.heap.size wr (wr.alloc (.cells #[.int .i64 i] 3)) := (Below.refl _ _).alloc (Nat.le_refl _) _
      have HB5 : Hid (Below w.heap.size w w5) := Lib.hid ((HB.out.trans (hba.mono HB.out.size)).grown hg5 (Nat.le_trans HB.out.size HBS.out) (fun j e => (hlo j e).1))
      have HZ2 := Lib.hid ((HX2.out.below HB5.out hl2.1))
      have HZ := Lib.hid ((HX.out.below HB5.out hl2.2))
      have HO5 := Lib.hid ho5
      have c2 : w5.cell? ⟨g, 2, none⟩ = some .nilIface := HZ.out.cell rfl
      clear HLE ho5 hg5 hba c1 HY2 HY HB HBS HCS HOI HOA hlo hl2
      go_wp2_with fail
      refine (outer_nil w5).mono ?_
      rintro e w6 ⟨rfl, hb6⟩
      have HF : Hid (PathRel w g2 g c k i (.slice A' 2 c') (.pointer none) w6) := Lib.hid
        ⟨HB5.out.trans (hb6.mono HB5.out.size), HZ2.out.below hb6 HZ2.out.lt, HZ.out.below hb6 HZ.out.lt, .inr (.inr ⟨rfl, A', c', rfl, HO5.out.below hb6 (Nat.le_refl _)⟩)⟩
      clear hb6 HZ2 HZ HO5 c2
      go_wp2
      go_roundw
      case rel => exact HF.out
      case measure => simp [lenOf]
    · have HB := Lib.hid hb
      have HOI := Lib.hid hoi
      clear hb hx2 hx hoi H0
      go_wp2
      go_ret
      exact ⟨A, cp, rfl, HOI.out.ri, HB.out⟩
end Go.Proofs.YtlecpekgnlaneaaDoor
