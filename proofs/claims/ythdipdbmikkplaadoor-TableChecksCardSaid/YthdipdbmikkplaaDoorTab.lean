/- Tables in memory, and the program's check of one. -/
import Derived.Test.YthdipdbmikkplaaDoorProg
import Derived.Test.YthdipdbmikkplaaDoorTabPlain2
import Derived.WalkKit
import Derived.WalkLawsBesides
import Derived.WalkSpells
import Derived.Deep.Draws
import Derived.Lib.Hide
import Derived.Deep.QuietTactic
import Derived.BigQuiet
import Derived.RegionTactic
import Derived.ChangeAlike
namespace Nac
open Go Go.RowKit Nac.Table
/-- an int -/
structure I64 (z : Int) : Prop where
  lo : -9223372036854775808 ≤ z
  hi : z ≤ 9223372036854775807
theorem I64.of {z : Int} (h : (Lit.int .i64 z).wf) : I64 z := by
  have : -9223372036854775808 ≤ z ∧ z ≤ 9223372036854775807 := by simpa [Lit.wf, IntKind.min, IntKind.max, IntKind.signed, IntKind.bits] using h
  exact ⟨this.1, this.2⟩
structure WinOk (x : Win) : Prop where
  p : I64 x.part
  s : I64 x.start
  t : I64 x.ticks
/-- the slice at A reads as the windows, below block B -/
def RW (w : World) (B : Nat) (A : Option Addr) (ws : List Win) : Prop :=
  ws ≠ [] → ∃ b o, A = some ⟨b, o, none⟩ ∧ b < B ∧ ∀ j (h : j < ws.length), w.cell? ⟨b, o + j * 3, none⟩ = some (.int .i64 ws[j].part) ∧ w.cell? ⟨b, o + j * 3 + 1, none⟩ = some (.int .i64 ws[j].start) ∧ w.cell? ⟨b, o + j * 3 + 2, none⟩ = some (.int .i64 ws[j].ticks) ∧ WinOk ws[j]
theorem RW.get {w : World} {B : Nat} {A : Option Addr} {ws : List Win} (h : RW w B A ws) {j : Nat} (hj : j < ws.length) :
    ∃ b o, A = some ⟨b, o, none⟩ ∧ b < B ∧ w.cell? ⟨b, o + j * 3, none⟩ = some (.int .i64 ws[j].part) ∧ w.cell? ⟨b, o + j * 3 + 1, none⟩ = some (.int .i64 ws[j].start) ∧ w.cell? ⟨b, o + j * 3 + 2, none⟩ = some (.int .i64 ws[j].ticks) ∧ WinOk ws[j] := by
  obtain ⟨b, o, hA, hb, hc⟩ := h (by intro e; subst e; simp at hj)
  exact ⟨b, o, hA, hb, hc j hj⟩
theorem RW.below {w w' : World} {B : Nat} {A : Option Addr} {ws : List Win} (h : RW w B A ws) (hb : Below B w w') : RW w' B A ws := fun hn => by
  obtain ⟨b, o, hA, hlt, hc⟩ := h hn
  refine ⟨b, o, hA, hlt, fun j hj => ?_⟩
  obtain ⟨h1, h2, h3, h4⟩ := hc j hj
  exact ⟨(hb.cell hlt).trans h1, (hb.cell hlt).trans h2, (hb.cell hlt).trans h3, h4⟩
theorem RW.mono {w : World} {B B' : Nat} {A : Option Addr} {ws : List Win} (h : RW w B A ws) (hB : B ≤ B') : RW w B' A ws := fun hn => by
  obtain ⟨b, o, hA, hlt, hc⟩ := h hn
  exact ⟨b, o, hA, by omega, hc⟩
theorem below_drewN {B : Nat} {a w : World} (h : Below B a w) (n : Nat) : Below B a (w.drewN n) := ⟨h.os, h.tape, h.output, h.size, h.block⟩
/-- some one-cell and two-cell boxes, known whole -/
def Box (w : World) (b : Nat) (cs : List Value) : Prop := ∃ t, w.heap[b]? = some (.cells cs.toArray t (0, 0))
section
variable {w w' : World} {b : Nat} {cs : List Value}
theorem Box.lt (h : Box w b cs) : b < w.heap.size := by
  obtain ⟨t, h⟩ := h
  exact (Array.getElem?_eq_some_iff.1 h).1
theorem Box.cell (h : Box w b cs) {j : Nat} {v : Value} (hj : cs[j]? = some v) : w.cell? ⟨b, j, none⟩ = some v := by
  obtain ⟨t, h⟩ := h
  rw [cell_of_row w b j _ t (0, 0) h]
  simpa using hj
theorem Box.below {B : Nat} (h : Box w b cs) (hb : Below B w w') (hB : b < B) : Box w' b cs := by
  obtain ⟨t, h⟩ := h
  exact ⟨t, (hb.block b hB).trans h⟩
theorem Box.new (w : World) (cs : List Value) (t : TypeId) : Box (w.alloc (.cells cs.toArray t)) w.heap.size cs := ⟨t, heap_alloc_new w _⟩
end
end Nac
namespace Go.Proofs.YthdipdbmikkplaaDoor
open Go.RowKit Nac Nac.Table
/-- what a check comes to: nil, or a fault -/
def ErrV (R : Option (Nat × Nat)) (v : Value) (w : World) : Prop :=
  match R with
  | none => v = .nilIface
  | some (c, i) => ∃ g, v = .iface 47 (.pointer (some ⟨g, 0, none⟩)) ∧ Box w g [.int .i64 c, .int .i64 i, .nilIface]
def RetErr (w : World) (R : Option (Nat × Nat)) (e : Ending) (w' : World) : Prop := (∃ v, e = .returned v ∧ ErrV R v w') ∧ Below w.heap.size w w'
theorem fault_new (w : World) (c i : Nat) (hc : 1 ≤ c) :
    Calls Tryd.prog 10 #[.int .i64 c, .int .i64 i] w (RetErr w (some (c, i))) := by
  go_enter Tryd.func10, Tryd.ntmps10
  go_wp2
  go_ret
  exact ⟨⟨_, rfl, w.heap.size, rfl, Box.new w _ _⟩, (Below.refl _ _).alloc (Nat.le_refl _) _⟩
theorem chk_step (T : Int) (ws : List Win) (e : Int) (k : Nat) (h : k < ws.length) : chk T (ws.drop k) e k =
    if ws[k].part < 0 ∨ 8 ≤ ws[k].part ∨ ws[k].ticks < 1 then some (1, k)
    else if ws[k].start < 0 ∨ T - ws[k].ticks < ws[k].start then some (4, k)
    else if ws[k].start < e then some (3, k)
    else chk T (ws.drop (k + 1)) (ws[k].start + ws[k].ticks) (k + 1) := by
  rw [List.drop_eq_getElem_cons h]
  rfl
set_option maxHeartbeats 4000000 in
theorem check_calls (w : World) (T : Int) (hT : I64 T) (A : Option Addr) (c : Nat) (ws : List Win) (hA : RW w w.heap.size A ws) (h8 : ws.length ≤ 140737488351232) :
    Calls Tryd.prog 5 #[.agg #[.int .i64 T, .slice A ws.length c]] w (RetErr w (check T ws)) := by
  have hT1 := hT.lo
  have hT2 := hT.hi
  by_cases h0 : T < 1 ∨ 256 < T ∨ 32 < ws.length
  · have hck : check T ws = some (1, 0) := by unfold check; rw [if_pos h0]
    have HC := Lib.hid hck; clear hck
    have h1 : T < 1 ∨ (1 ≤ T ∧ 256 < T) ∨ (1 ≤ T ∧ T ≤ 256 ∧ 32 < ws.length) := by omega
    clear h0
    rcases h1 with h1 | ⟨h1, h2⟩ | ⟨h1, h2, h3⟩
    all_goals
      go_enter Tryd.func5, Tryd.ntmps5
      go_wp2_with fail
      refine (fault_new _ 1 0 (Nat.le_refl _)).mono ?_
      rintro e w2 ⟨⟨v, rfl, hv⟩, hb⟩
      have HV := Lib.hid hv; clear hv
      have HB := Lib.hid hb; clear hb
      go_wp2
      go_ret
      rw [HC.out]
      exact ⟨⟨v, rfl, HV.out⟩, ((Below.refl _ _).alloc (Nat.le_refl _) _).trans (HB.out.mono (by simp))⟩
  · have hck : check T ws = chk T ws 0 0 := by unfold check; rw [if_neg h0]
    rw [hck]
    clear hck
    obtain ⟨R, hR⟩ : ∃ R, Hid (R = chk T ws 0 0) := ⟨_, rfl⟩
    rw [← hR.out]
    have h1 : 1 ≤ T := by omega
    have h2 : T ≤ 256 := by omega
    have h3 : ws.length ≤ 32 := by omega
    clear h0
    go_enter Tryd.func5, Tryd.ntmps5
    go_wp2_with fail
    go_loopw [3, 24] (fun s3 s24 wr => ∃ (k : Nat) (e : Int), k ≤ ws.length ∧ s24 = .int .i64 k ∧ s3 = .int .i64 e ∧ 0 ≤ e ∧ e ≤ 256 ∧ Hid (R = chk T (ws.drop k) e k) ∧ Below w.heap.size w wr ∧ Box wr w.heap.size [.int .i64 T, .slice A ws.length c]) (fun _ s24 _ => 40 - (intOf s24).toNat)
    case atStart => exact ⟨0, 0, by omega, rfl, rfl, by omega, by omega, hR, (Below.refl _ _).alloc (Nat.le_refl _) _, Box.new w _ _⟩
    case round =>
      clear hR
      obtain ⟨k, e, hk, rfl, rfl, he0, he1, HR, hbel, hbox⟩ := hrel
      by_cases hkl : k < ws.length
      · obtain ⟨b, o, rfl, hb, c0, c1, c2, hw⟩ := (hA.below hbel).get hkl
        have hst := chk_step T ws e k hkl
        have hst' : Hid (R = _) := HR.out.trans hst
        clear hst HR
        obtain ⟨⟨p, s, t⟩, hx⟩ : ∃ x, x = ws[k] := ⟨_, rfl⟩
        rw [← hx] at c0 c1 c2 hw hst'
        clear hx
        simp only at c0 c1 c2
        have hp1 := hw.p.lo
        have hp2 := hw.p.hi
        have hs1 := hw.s.lo
        have hs2 := hw.s.hi
        have ht1 := hw.t.lo
        have ht2 := hw.t.hi
        simp only at hp1 hp2 hs1 hs2 ht1 ht2
        clear hw
        have m0 : wr.cell? ⟨w.heap.size, 0, none⟩ = some (.int .i64 T) := hbox.cell rfl
        have hbs := hbox.lt
        have hnew : ∀ o, Below w.heap.size w (wr.alloc o) := fun o => hbel.alloc hbel.size o
        have hbox2 : ∀ o', Box (wr.alloc o') w.heap.size [.int .i64 T, .slice (some ⟨b, o, none⟩) ws.length c] := fun o' => hbox.below ((Below.refl (w.heap.size + 1) wr).alloc (by omega) o') (by omega)
        have HN := Lib.hid hnew
        have HX := Lib.hid hbox2
        clear hbel hbox hnew hbox2
        by_cases h4 : p < 0 ∨ 8 ≤ p ∨ t < 1
        · have hRk : Hid (R = some (1, k)) := by rw [hst'.out]; exact if_pos h4
          clear hst'
          have h5 : p < 0 ∨ (0 ≤ p ∧ 8 ≤ p) ∨ (0 ≤ p ∧ p < 8 ∧ t < 1) := by omega
          clear h4
          rcases h5 with h5 | ⟨h5, h6⟩ | ⟨h5, h6, h7⟩
          all_goals
            go_wp2_with fail
            refine (fault_new _ 1 k (Nat.le_refl _)).mono ?_
            rintro e w2 ⟨⟨v, rfl, hv⟩, hb2⟩
            have HV := Lib.hid hv; clear hv
            have HB := Lib.hid hb2; clear hb2
            go_wp2
            go_ret
            rw [hRk.out]
            exact ⟨⟨v, rfl, HV.out⟩, (HN.out _).trans (HB.out.mono (HN.out _).size)⟩
        · obtain ⟨h5, h6, h7⟩ : 0 ≤ p ∧ p < 8 ∧ 1 ≤ t := by omega
          by_cases h8' : s < 0 ∨ T - t < s
          · have hRk : Hid (R = some (4, k)) := by rw [hst'.out]; exact (if_neg h4).trans (if_pos h8')
            clear hst' h4
            have h5 : s < 0 ∨ (0 ≤ s ∧ T - t < s) := by omega
            clear h8'
            rcases h5 with h5 | ⟨h5, h6⟩
            all_goals
              go_wp2_with fail
              refine (fault_new _ 4 k (by decide)).mono ?_
              rintro e w2 ⟨⟨v, rfl, hv⟩, hb2⟩
              have HV := Lib.hid hv; clear hv
              have HB := Lib.hid hb2; clear hb2
              go_wp2
              go_ret
              rw [hRk.out]
              exact ⟨⟨v, rfl, HV.out⟩, (HN.out _).trans (HB.out.mono (HN.out _).size)⟩
          · obtain ⟨h9, h10⟩ : 0 ≤ s ∧ s ≤ T - t := by omega
            by_cases h11 : s < e
            · have hRk : Hid (R = some (3, k)) := by rw [hst'.out]; exact (if_neg h4).trans ((if_neg h8').trans (if_pos h11))
              clear hst' h4 h8'
              go_wp2_with fail
              refine (fault_new _ 3 k (by decide)).mono ?_
              rintro e w2 ⟨⟨v, rfl, hv⟩, hb2⟩
              have HV := Lib.hid hv; clear hv
              have HB := Lib.hid hb2; clear hb2
              go_wp2
              go_ret
              rw [hRk.out]
              exact ⟨⟨v, rfl, HV.out⟩, (HN.out _).trans (HB.out.mono (HN.out _).size)⟩
            · have hRk : Hid (R = chk T (ws.drop (k + 1)) (s + t) (k + 1)) := by rw [hst'.out]; exact (if_neg h4).trans ((if_neg h8').trans (if_neg h11))
              clear hst' h4 h8'
              have h12 : s + t ≤ 256 := by omega
              have h13 : 0 ≤ s + t := by omega
              go_wp2
              go_roundw
              case rel => exact ⟨k + 1, s + t, by omega, by go_num, rfl, by omega, by omega, hRk, HN.out _, HX.out _⟩
              case measure => simp [intOf]; omega
      · have e0 : R = none := by rw [HR.out, List.drop_of_length_le (by omega)]; rfl
        have HE := Lib.hid e0
        have HB := Lib.hid hbel
        clear e0 HR hbel hbox
        go_wp2
        go_ret
        rw [HE.out]
        exact ⟨⟨_, rfl, rfl⟩, HB.out⟩
end Go.Proofs.YthdipdbmikkplaaDoor
