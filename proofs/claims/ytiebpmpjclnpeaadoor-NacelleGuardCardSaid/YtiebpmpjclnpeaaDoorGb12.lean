/- Bundle 12 of the texts PortSend, PortPush, PortRecv, PortNew, Strs, GLaw1, As, Post, Hdl, LaidH, Sm, OpenG. -/
import Derived.Test.YtiebpmpjclnpeaaDoorGb11
import Derived.Test.YtiebpmpjclnpeaaDoorGb5
import Derived.Test.YtiebpmpjclnpeaaDoorGb1
import Derived.Test.YtiebpmpjclnpeaaDoorGb9
import Derived.Lib.SlBytesConst
import Derived.Test.YtiebpmpjclnpeaaDoorProg
import Derived.WalkKit
import Derived.LaidEql
import Derived.Stop.Asserts
import Derived.RowKitTokens
import Derived.ProofKit
import Derived.OpenShut
import Derived.ChangeSame
import Derived.Test.YtiebpmpjclnpeaaDoorCards
import Derived.Test.YtiebpmpjclnpeaaDoorTie
import Derived.Deep.DeepHandedRow
import Derived.Lib.LaidTab
import Derived.LaidHandle
import Derived.Stop.Joined
import Derived.SizedLaws
import Derived.Test.YtiebpmpjclnpeaaDoorGb8
import Derived.Deep.Slices
import Derived.Deep.Fields
import Derived.Deep.MidRow
/- Send. -/
namespace Go.Proofs.YtiebpmpjclnpeaaDoor
open Go.RowKit Nac
def RetSend (w : World) (b : Nat) (C : Ch) (l : List UInt8) (now : Nat) (e : Ending) (w' : World) : Prop :=
  e = .returned (.int .i64 (C.send l now).2) ∧ (∃ f', f' < 16 ∧ Blk w' b (ccells (C.send l now).1 f')) ∧ w.grownBy w' (some b)
set_option maxHeartbeats 2000000 in
theorem send_long (w : World) (b : Nat) (C : Ch) (f : Nat) (A : Option Addr) (c : Nat) (l : List UInt8) (now : Nat) (hC : C.ok) (hf : f < 16) (h : Blk w b (ccells C f)) (h8 : l.length ≤ 140737488351232) (hl : C.size < l.length) :
    Calls Tryd.prog 6 #[.pointer (some ⟨b, 0, none⟩), .slice A l.length c, .int .u64 now] w (RetSend w b C l now) := by
  have hs : C.send l now = (C, 1) := by unfold Ch.send; rw [if_pos hl]
  have HS := Lib.hid hs; clear hs
  have c2 : w.cell? ⟨b, 2, none⟩ = some (.int .i64 C.size) := h.cell rfl
  go_enter Tryd.func6, Tryd.ntmps6
  go_wp2
  go_ret
  unfold RetSend
  rw [HS.out]
  exact ⟨rfl, ⟨f, hf, h⟩, World.grownBy.refl w _⟩
set_option maxHeartbeats 2000000 in
theorem send_full1 (w : World) (b : Nat) (C : Ch) (f : Nat) (A : Option Addr) (c : Nat) (l : List UInt8) (now : Nat) (hC : C.ok) (hf : f < 16) (h : Blk w b (ccells C f)) (h8 : l.length ≤ 140737488351232) (hl : l.length ≤ C.size) (hq : C.q.length = C.most) (hk : C.kind = 1) :
    Calls Tryd.prog 6 #[.pointer (some ⟨b, 0, none⟩), .slice A l.length c, .int .u64 now] w (RetSend w b C l now) := by
  have hs : C.send l now = (C, 5) := by unfold Ch.send; rw [if_neg (by omega), if_pos hq, if_pos hk]
  have HS := Lib.hid hs; clear hs
  have c2 : w.cell? ⟨b, 2, none⟩ = some (.int .i64 C.size) := h.cell rfl
  have c4 : w.cell? ⟨b, 4, none⟩ = some (.int .i64 C.q.length) := h.cell rfl
  have c1 : w.cell? ⟨b, 1, none⟩ = some (.int .i64 C.most) := h.cell rfl
  have c0 : w.cell? ⟨b, 0, none⟩ = some (.int .i64 C.kind) := h.cell rfl
  rw [hq] at c4
  rw [hk] at c0
  have HB := Lib.hid h; clear h hq hk
  go_enter Tryd.func6, Tryd.ntmps6
  go_wp2
  go_region
  all_goals
    go_wp2
    go_ret
    unfold RetSend
    rw [HS.out]
    exact ⟨rfl, ⟨f, hf, HB.out⟩, grown_drew (World.grownBy.refl w _)⟩
set_option maxHeartbeats 2000000 in
theorem send_full2 (w : World) (b : Nat) (C : Ch) (f : Nat) (A : Option Addr) (c : Nat) (l : List UInt8) (now : Nat) (hC : C.ok) (hf : f < 16) (h : Blk w b (ccells C f)) (h8 : l.length ≤ 140737488351232) (hl : l.length ≤ C.size) (hq : C.q.length = C.most) (hk : C.kind = 2) :
    Calls Tryd.prog 6 #[.pointer (some ⟨b, 0, none⟩), .slice A l.length c, .int .u64 now] w (RetSend w b C l now) := by
  have hs : C.send l now = ({ C with lost := if C.lost < 18446744073709551615 then C.lost + 1 else C.lost }, 0) := by unfold Ch.send; rw [if_neg (by omega), if_pos hq, if_neg (by omega), if_pos hk]
  have HS := Lib.hid hs; clear hs
  have hlo := hC.lost
  have c2 : w.cell? ⟨b, 2, none⟩ = some (.int .i64 C.size) := h.cell rfl
  have c4 : w.cell? ⟨b, 4, none⟩ = some (.int .i64 C.q.length) := h.cell rfl
  have c1 : w.cell? ⟨b, 1, none⟩ = some (.int .i64 C.most) := h.cell rfl
  have c0 : w.cell? ⟨b, 0, none⟩ = some (.int .i64 C.kind) := h.cell rfl
  have c5 : w.cell? ⟨b, 5, none⟩ = some (.int .u64 C.lost) := h.cell rfl
  have f5 := h.free 5
  rw [hq] at c4
  rw [hk] at c0
  have HB := Lib.hid h; clear h hq hk
  obtain ⟨lo, hloe⟩ : ∃ lo : Int, Hid (lo = (C.lost : Int)) := ⟨_, rfl⟩
  rw [← hloe.out] at c5
  have g0 : 0 ≤ lo := by have := hloe.out; omega
  have g1 : lo ≤ 18446744073709551615 := by have := hloe.out; omega
  clear hlo
  by_cases hlt : C.lost < 18446744073709551615
  · have g2 : lo < 18446744073709551615 := by have := hloe.out; omega
    have HLT := Lib.hid hlt; clear hlt
    go_enter Tryd.func6, Tryd.ntmps6
    go_wp2
    go_region
    all_goals
      go_wp2
      go_ret
      unfold RetSend
      rw [HS.out, if_pos HLT.out]
      refine ⟨rfl, ⟨f, hf, ?_⟩, grown_drew (grown_setCell _ _ _)⟩
      rw [hloe.out]
      exact HB.out.setCell 5 (.int .u64 ((C.lost : Int) + 1))
  · have g2 : 18446744073709551615 ≤ lo := by have := hloe.out; omega
    have HLT := Lib.hid hlt; clear hlt
    go_enter Tryd.func6, Tryd.ntmps6
    go_wp2
    go_region
    all_goals
      go_wp2
      go_ret
      unfold RetSend
      rw [HS.out, if_neg HLT.out]
      exact ⟨rfl, ⟨f, hf, HB.out⟩, grown_drew (World.grownBy.refl w _)⟩
end Go.Proofs.YtiebpmpjclnpeaaDoor
/- Send, where the message is taken in. -/
namespace Nac
open Go Go.RowKit
theorem RB.grown {w w' : World} {B : Nat} {A : Option Addr} {l : List UInt8} (h : RB w B A l) {row : Option Nat} (hg : w.grownBy w' row) (hB : B ≤ w.heap.size) (hr : ∀ k, row = some k → B ≤ k) : RB w' B A l :=
  h.below ((Below.refl B w).grown hg hB hr)
theorem RB.grownNe {w w' : World} {B b : Nat} {A : Option Addr} {l : List UInt8} (h : RB w B A l) (hg : w.grownBy w' (some b)) (hB : B ≤ w.heap.size) (hne : B ≤ b ∨ A.map (·.block) ≠ some b) : RB w' B A l := fun hl => by
  obtain ⟨c, o, rfl, hb, hc⟩ := h hl
  refine ⟨c, o, rfl, hb, fun j hj => ?_⟩
  have hcb : c ≠ b := by
    rcases hne with hne | hne
    · omega
    · intro e; subst e; exact hne rfl
  rw [← hc j hj]
  exact World.cell?_of_block (w := w) (hg.block c (by omega) (fun e => by injection e with e; exact hcb e))
end Nac
namespace Go.Proofs.YtiebpmpjclnpeaaDoor
open Go.RowKit Nac
theorem ncells_one (n now : Int) : ∀ v ∈ ncells n now, v.oneCell' = true := by
  intro v hv
  simp only [ncells, List.mem_append, List.mem_map, List.mem_cons, List.not_mem_nil, or_false] at hv
  rcases hv with ⟨x, _, rfl⟩ | rfl | rfl <;> rfl
set_option maxHeartbeats 4000000 in
theorem send_push (w : World) (B b : Nat) (C : Ch) (f : Nat) (A : Option Addr) (c : Nat) (l : List UInt8) (now : Nat) (hC : C.ok) (hf : f < 16) (h : Blk w b (ccells C f)) (hr : RB w B A l) (hB' : B ≤ w.heap.size) (hB : B ≤ b ∨ A.map (·.block) ≠ some b) (hl : l.length ≤ C.size)
    (hway : C.q.length < C.most ∨ (C.q.length = C.most ∧ C.kind = 0)) :
    Calls Tryd.prog 6 #[.pointer (some ⟨b, 0, none⟩), .slice A l.length c, .int .u64 now] w (RetSend w b C l now) := by
  have hsz := hC.size
  have hmo := hC.most
  have hm1 := hC.most1
  have c2 : w.cell? ⟨b, 2, none⟩ = some (.int .i64 C.size) := h.cell rfl
  have c4 : w.cell? ⟨b, 4, none⟩ = some (.int .i64 C.q.length) := h.cell rfl
  have c1 : w.cell? ⟨b, 1, none⟩ = some (.int .i64 C.most) := h.cell rfl
  have c0 : w.cell? ⟨b, 0, none⟩ = some (.int .i64 C.kind) := h.cell rfl
  have hl64 : l.length ≤ 64 := by omega
  rcases hway with hlt | ⟨hq, hk⟩
  · have hs : C.send l now = ({ C with q := C.q ++ [⟨l, now⟩] }, 0) := by unfold Ch.send; rw [if_neg (by omega), if_neg (by omega)]
    have HS := Lib.hid hs; clear hs
    obtain ⟨n, hn⟩ : ∃ n, Hid (n = C.q.length) := ⟨_, rfl⟩
    rw [← hn.out] at c4 hlt
    have HP : Hid (C.send l now = ({ C with q := C.q ++ [⟨l, now⟩] }, 0)) := HS.out
    have K0 : Blk w.drew b (ccells C f) := h
    have G0 : w.grownBy w.drew (some b) := grown_drew (World.grownBy.refl w _)
    have hn16 : C.q.length < 16 := by have := hn.out; omega
    have hb0 := h.lt
    clear h
    go_enter Tryd.func6, Tryd.ntmps6
    go_wp2
    go_region
    all_goals
      obtain ⟨w1, hw1⟩ : ∃ w1, Hid (w1 = w.drew) := ⟨_, rfl⟩
      obtain ⟨C1, hC1e⟩ : ∃ C1, Hid (C1 = C) := ⟨_, rfl⟩
      obtain ⟨f1, hf1e⟩ : ∃ f1, Hid (f1 = f) := ⟨_, rfl⟩
      rw [← hw1.out] at K0 G0 ⊢
      have HP2 : Hid (C.send l now = ({ C1 with q := C1.q ++ [⟨l, now⟩] }, 0)) := by rw [hC1e.out]; exact HP
      clear HP
      have HP := HP2
      clear HP2
      have hf1 : f1 < 16 := by have := hf1e.out; omega
      have hC1 : C1.ok := by rw [hC1e.out]; exact hC
      have hn1 : C1.q.length < 16 := by rw [hC1e.out]; exact hn16
      rw [← hC1e.out, ← hf1e.out] at K0
      have R0 : RB w1 B A l := by rw [hw1.out]; exact hr
      have hB1 : B ≤ w1.heap.size := Nat.le_trans hB' G0.size
      have hbs : b < w1.heap.size := K0.lt
      clear hr hn16 c0 c1 c2 c4 hn hB' hb0
      go_wp2_with (first
        | ((with_reducible show wpList _ _ _ (Oper.mk _ (Op.build _ _) _ _ _ _ :: _) _ _); refine wpList_nmsg rfl _ _ rfl l.length now rfl rfl ?_)
        | ((with_reducible show wpList _ _ _ (Oper.mk _ (Op.alloc _) _ _ _ _ :: _) _ _); refine wpList_allocMsg rfl rfl ?_))
      intro w2 hb2 hg2
      have K2 := K0.grown hg2 (by simp)
      have R2 := R0.grown hg2 hB1 (by simp)
      go_wp2_with ((with_reducible show wpList _ _ _ (Oper.mk _ (Op.store 62 _ _) _ _ _ _ :: _) _ _); refine wpList_storeMsg rfl _ _ rfl w1.heap.size 0 (mcells zmsg) (ncells l.length now) rfl rfl hb2 (by simp [ncells]) (by rw [mcells_len _ (by simp [zmsg])]; decide) (ncells_one _ _) (ncells l.length now) (by rw [List.take_zero, List.nil_append, List.drop_of_length_le (by rw [mcells_len _ (by simp [zmsg])]; simp [ncells]), List.append_nil]) ?_)
      intro w3 hb3 hg3
      have K3 := K2.grown hg3 (fun e => by injection e with e; omega)
      have R3 := R2.grown hg3 (Nat.le_trans hB1 hg2.size) (fun k e => by injection e with e; omega)
      go_wp2_with (refine wpList_copyMsg rfl _ _ rfl w1.heap.size 64 rfl A l.length c l rfl rfl B R3 hl64 now hb3 ?_)
      intro w4 hb4 hg4
      have K4 := K3.grown hg4 (fun e => by injection e with e; omega)
      have G4 : w.grownBy w4 (some b) := by
        have z2 := G0.trans (grown_none hg2)
        refine ⟨hg4.os.trans (hg3.os.trans z2.os), hg4.tape.trans (hg3.tape.trans z2.tape), hg4.output.trans (hg3.output.trans z2.output), Nat.le_trans z2.size (Nat.le_trans hg3.size hg4.size), fun k hk hne => ?_⟩
        have hk1 : k < w1.heap.size := Nat.lt_of_lt_of_le hk G0.size
        have hk2 : k < w2.heap.size := Nat.lt_of_lt_of_le hk1 hg2.size
        rw [hg4.block k (Nat.lt_of_lt_of_le hk2 hg3.size) (fun e => by injection e with e; omega), hg3.block k hk2 (fun e => by injection e with e; omega)]
        exact z2.block k hk hne
      have hsz4 : b < w4.heap.size := K4.lt
      have hs14 : w1.heap.size < w4.heap.size := hb4.lt
      clear K0 K2 K3 R0 R2 R3 hb2 hb3 hg2 hg3 hg4 G0
      go_wp2_with fail
      have V0 : ∀ w', Below w4.drew.heap.size w4.drew w' → Blk w' b (ccells C1 f1) := fun w' hb => K4.below (w := w4.drew) hb hsz4
      have V1 : ∀ w', Below w4.drew.heap.size w4.drew w' → Blk w' w1.heap.size (mcells ⟨l, now⟩) := fun w' hb => Blk.below (w := w4.drew) hb4 hb hs14
      have L1 : ∀ w', Below w4.drew.heap.size w4.drew w' → (Instr.loadAt 3 (.pointer (some ⟨b, 4, none⟩))).run Tryd.prog w' = .ok (.int .i64 C1.q.length) w' := fun w' hb => by
        have c4' : w'.cell? ⟨b, 4, none⟩ = some (.int .i64 C1.q.length) := (V0 w' hb).cell rfl
        go_simp
      have L2 : ∀ w', Below w4.drew.heap.size w4.drew w' → (Instr.loadAt 62 (.pointer (some ⟨w1.heap.size, 0, none⟩))).run Tryd.prog w' = .ok (.agg (mcells ⟨l, now⟩).toArray) w' := fun w' hb =>
        run_loadAt_mid w' w1.heap.size 0 62 (mcells ⟨l, now⟩) _ ((V1 w' hb).range 0 _ ⟨[], [], by simp, rfl⟩) Tryd.underlying62 rfl (by rw [infoMsg, mcells_len _ hl64])
      have L3 : ∀ w', (Instr.fieldAt 65 (.pointer (some ⟨b, 0, none⟩)) 4).run Tryd.prog w' = .ok (.pointer (some ⟨b, 4, none⟩)) w' := fun w' => by go_simp
      have L4 : ∀ (v u : Value) w', Below w4.drew.heap.size w4.drew w' → v = .pointer (some ⟨b, 0, none⟩) → u = .int .i64 C1.q.length → Calls Tryd.prog 18 #[v, u] w' fun e w'' => ∃ v, e = .returned v ∧ v = .pointer (some ⟨b, 6 + 66 * ((f1 + C1.q.length) % 16), none⟩) ∧ Below w'.heap.size w' w'' := by
        rintro v u w' hb rfl rfl
        refine (at_calls w' b f1 C1.q.length hf1 (by omega) ((V0 w' hb).cell rfl)).mono ?_
        rintro e w'' ⟨rfl, rfl⟩
        exact ⟨_, rfl, rfl, (Below.refl _ _).drew⟩
      let D : Nat → VD := fun i => ([.is (.pointer (some ⟨b, 0, none⟩)), .is (.pointer (some ⟨b, 0, none⟩)), .is (.pointer (some ⟨b, 0, none⟩)), .is (.pointer (some ⟨b, 4, none⟩)), .is (.int .i64 C1.q.length), .is (.pointer (some ⟨b, 6 + 66 * ((f1 + C1.q.length) % 16), none⟩)), .is (.agg (mcells ⟨l, now⟩).toArray), .is (.pointer (some ⟨b, 6 + 66 * ((f1 + C1.q.length) % 16), none⟩)), .is undef] : List VD).getD i (.is undef)
      refine region_monoL D 8 (by kernel_rfl) (by kernel_rfl) (by kernel_rfl) (by kernel_rfl) (by kernel_rfl) (fun i hi hne => ?_) ?_
      · match i, hi, hne with
        | 0, _, _ => exact mstep_first rfl (mwant_none rfl) 0 (Or.inl rfl) (by kernel_rfl) (fun _ _ => rfl)
        | 1, _, _ => exact mstep_first rfl (mwant_none rfl) 0 (Or.inl rfl) (by kernel_rfl) (fun _ _ => rfl)
        | 2, _, _ => exact mstep_nil rfl (mwant_none rfl) 55 rfl 1 (by kernel_rfl) rfl _ rfl rfl
        | 3, _, _ => exact mstep_field rfl (mwant_none rfl) 56 _ _ rfl 2 (by kernel_rfl) rfl _ _ rfl rfl L3
        | 4, _, _ => exact mstep_load rfl (mwant_none rfl) 57 _ rfl 3 (by kernel_rfl) rfl _ _ rfl rfl L1
        | 5, _, _ => exact mstep_call2 rfl (mwant_none rfl) _ 54 58 _ rfl (enters_of Tryd.func18 (by kernel_rfl) rfl) 0 4 (by kernel_rfl) (by kernel_rfl) rfl rfl L4
        | 6, _, _ => exact mstep_loadT rfl (mwant_none rfl) 7 _ rfl (by kernel_rfl) _ _ rfl rfl L2
        | 7, _, _ => exact mstep_nil rfl (mwant_none rfl) 59 rfl 5 (by kernel_rfl) rfl _ rfl rfl
        | 8, _, h => exact absurd rfl h
        | n + 9, h, _ => exact absurd h (by show ¬ (n + 9 < 9); omega)
      · intro o a w5 ho hb hde hts hok hor
        obtain rfl := Option.some.inj ho
        have e60 : a.tmps.getD 60 undef = .agg (mcells ⟨l, now⟩).toArray := hok 6 60 (by decide) rfl
        have e61 : a.tmps.getD 61 undef = .pointer (some ⟨b, 6 + 66 * ((f1 + C1.q.length) % 16), none⟩) := hok 7 61 (by decide) rfl
        have e0 : a.tmps.getD 0 undef = .pointer (some ⟨b, 0, none⟩) := hor 0 (fun i _ => free_dst (by kernel_rfl) i)
        have K5 := V0 w5 hb
        have hlen5 := ccells_len C1 hC1 f1
        have hml := mcells_len ⟨l, now⟩ hl64
        refine ⟨rfl, wp_store_mid 62 _ _ rfl b (6 + 66 * ((f1 + C1.q.length) % 16)) (mcells ⟨l, now⟩).toArray e61 e60 (K5.there _ _ (by simp only [List.size_toArray]; omega)) (by rw [infoMsg]; simp [hml]) (all_oneCell_toArray (mcells_one _)) ?_⟩
        have K6 := K5.setCells (mcells ⟨l, now⟩) (6 + 66 * ((f1 + C1.q.length) % 16)) (by omega)
        rw [ccells_store C1 hC1 f1 _ (Nat.mod_lt _ (by decide)) ⟨l, now⟩ hl64, ring_push f1 C1.q hf1 hn1 ⟨l, now⟩] at K6
        have G6 : w.grownBy (w5.setCells b (6 + 66 * ((f1 + C1.q.length) % 16)) (mcells ⟨l, now⟩)) (some b) := by
          refine World.grownBy.trans ?_ (grown_setCells _ _ _ _)
          refine ⟨hb.os.trans G4.os, hb.tape.trans G4.tape, hb.output.trans G4.output, Nat.le_trans G4.size hb.size, fun k hk hne => ?_⟩
          exact (hb.block k (Nat.lt_of_lt_of_le hk G4.size)).trans (G4.block k hk hne)
        show Exit.then _ _ Exit.normal a (w5.setCells b (6 + 66 * ((f1 + C1.q.length) % 16)) (mcells ⟨l, now⟩))
        obtain ⟨w6, hw6⟩ : ∃ w6, w6 = w5.setCells b (6 + 66 * ((f1 + C1.q.length) % 16)) (mcells ⟨l, now⟩) := ⟨_, rfl⟩
        rw [← hw6] at K6 G6 ⊢
        clear hw6 K5 V0 V1 L1 L2 L4 hb hor hok e60 e61
        obtain ⟨tm, df⟩ := a
        obtain rfl : df = [] := hde
        have hlit := lit_of 69 tm hts
        obtain ⟨F, hF⟩ : ∃ F : Nat → Value, F = fun i => tm.getD i undef := ⟨_, rfl⟩
        rw [← hF] at hlit
        have e0' : F 0 = .pointer (some ⟨b, 0, none⟩) := by rw [hF]; exact e0
        clear e0 hF hts
        have hlit2 : tm = #[F 0, F 1, F 2, F 3, F 4, F 5, F 6, F 7, F 8, F 9, F 10, F 11, F 12, F 13, F 14, F 15, F 16, F 17, F 18, F 19, F 20, F 21, F 22, F 23, F 24, F 25, F 26, F 27, F 28, F 29, F 30, F 31, F 32, F 33, F 34, F 35, F 36, F 37, F 38, F 39, F 40, F 41, F 42, F 43, F 44, F 45, F 46, F 47, F 48, F 49, F 50, F 51, F 52, F 53, F 54, F 55, F 56, F 57, F 58, F 59, F 60, F 61, F 62, F 63, F 64, F 65, F 66, F 67, F 68] := hlit
        clear hlit
        subst hlit2
        rw [e0']
        have c4 : w6.cell? ⟨b, 4, none⟩ = some (.int .i64 C1.q.length) := K6.cell rfl
        have f4 := K6.free 4
        obtain ⟨n1, hn1e⟩ : ∃ n1, Hid (n1 = C1.q.length) := ⟨_, rfl⟩
        rw [← hn1e.out] at c4
        have hn1' : n1 < 16 := by have := hn1e.out; omega
        have KK := Lib.hid K6; clear K6
        have GG := Lib.hid G6; clear G6
        refine (by assumption : ∀ (a : Act) (w : World), Code.wp _ _ _ a w → _) _ _ ?_
        go_wp2
        go_ret
        unfold RetSend
        rw [HP.out]
        refine ⟨rfl, ⟨f1, hf1, ?_⟩, GG.out.trans (grown_setCell _ _ _)⟩
        have := KK.out.setCell 4 (.int .i64 ((n1 : Int) + 1))
        have e : (hd C1 f1 C1.q.length ++ (ringL f1 (C1.q ++ [⟨l, now⟩])).flatten).set 4 (.int .i64 ((n1 : Int) + 1)) = ccells { C1 with q := C1.q ++ [⟨l, now⟩] } f1 := by
          unfold ccells
          rw [hn1e.out]
          simp [hd]
        rw [e] at this
        exact this
  · have hs : C.send l now = ({ C with q := C.q.tail ++ [⟨l, now⟩] }, 0) := by unfold Ch.send; rw [if_neg (by omega), if_pos hq, if_neg (by omega), if_neg (by omega)]
    have hmo1 := hC.one hk
    have hne : C.q ≠ [] := by intro e; rw [e] at hq; simp at hq; omega
    have hCt : ({ C with q := C.q.tail } : Ch).ok := ⟨hC.kind, hC.most1, hC.most, hC.one, hC.size, hC.lost, by have := hC.len; show C.q.tail.length ≤ C.most; simp; omega, fun m hm => hC.fit m (List.mem_of_mem_tail hm)⟩
    have hn16 : C.q.tail.length < 16 := by simp; omega
    have HP := Lib.hid hs; clear hs
    rw [hq, hmo1] at c4
    rw [hmo1] at c1
    rw [hk] at c0
    have HNE := Lib.hid hne
    have hb0 := h.lt
    have h' := Lib.hid h; clear h hq hk hmo1 hne
    go_enter Tryd.func6, Tryd.ntmps6
    go_wp2
    go_region
    all_goals
      go_wp2_with fail
      refine (remove_calls w.drew b C f hC hf HNE.out h'.out).mono ?_
      rintro e w1 ⟨rfl, hk1, hg1⟩
      have G0 : w.grownBy w1 (some b) := grown_of_drew hg1
      obtain ⟨C1, hC1e⟩ : ∃ C1 : Ch, Hid (C1 = ({ C with q := C.q.tail } : Ch)) := ⟨_, rfl⟩
      obtain ⟨f1, hf1e⟩ : ∃ f1, Hid (f1 = (f + 1) % 16) := ⟨_, rfl⟩
      have HP2 : Hid (C.send l now = ({ C1 with q := C1.q ++ [⟨l, now⟩] }, 0)) := by rw [hC1e.out]; exact HP
      clear HP
      have HP := HP2
      clear HP2
      have hf1 : f1 < 16 := by have := hf1e.out; omega
      have hC1 : C1.ok := by rw [hC1e.out]; exact hCt
      have hn1 : C1.q.length < 16 := by rw [hC1e.out]; exact hn16
      rw [← hC1e.out, ← hf1e.out] at hk1
      have K0 := hk1
      have R0 : RB w1 B A l := hr.grownNe G0 hB' hB
      have hB1 : B ≤ w1.heap.size := Nat.le_trans hB' G0.size
      have hbs : b < w1.heap.size := K0.lt
      clear hr hn16 c0 c1 c2 c4 hB' hb0 hk1 hg1 h' hCt
      go_wp2_with (first
        | ((with_reducible show wpList _ _ _ (Oper.mk _ (Op.build _ _) _ _ _ _ :: _) _ _); refine wpList_nmsg rfl _ _ rfl l.length now rfl rfl ?_)
        | ((with_reducible show wpList _ _ _ (Oper.mk _ (Op.alloc _) _ _ _ _ :: _) _ _); refine wpList_allocMsg rfl rfl ?_))
      intro w2 hb2 hg2
      have K2 := K0.grown hg2 (by simp)
      have R2 := R0.grown hg2 hB1 (by simp)
      go_wp2_with ((with_reducible show wpList _ _ _ (Oper.mk _ (Op.store 62 _ _) _ _ _ _ :: _) _ _); refine wpList_storeMsg rfl _ _ rfl w1.heap.size 0 (mcells zmsg) (ncells l.length now) rfl rfl hb2 (by simp [ncells]) (by rw [mcells_len _ (by simp [zmsg])]; decide) (ncells_one _ _) (ncells l.length now) (by rw [List.take_zero, List.nil_append, List.drop_of_length_le (by rw [mcells_len _ (by simp [zmsg])]; simp [ncells]), List.append_nil]) ?_)
      intro w3 hb3 hg3
      have K3 := K2.grown hg3 (fun e => by injection e with e; omega)
      have R3 := R2.grown hg3 (Nat.le_trans hB1 hg2.size) (fun k e => by injection e with e; omega)
      go_wp2_with (refine wpList_copyMsg rfl _ _ rfl w1.heap.size 64 rfl A l.length c l rfl rfl B R3 hl64 now hb3 ?_)
      intro w4 hb4 hg4
      have K4 := K3.grown hg4 (fun e => by injection e with e; omega)
      have G4 : w.grownBy w4 (some b) := by
        have z2 := G0.trans (grown_none hg2)
        refine ⟨hg4.os.trans (hg3.os.trans z2.os), hg4.tape.trans (hg3.tape.trans z2.tape), hg4.output.trans (hg3.output.trans z2.output), Nat.le_trans z2.size (Nat.le_trans hg3.size hg4.size), fun k hk hne => ?_⟩
        have hk1 : k < w1.heap.size := Nat.lt_of_lt_of_le hk G0.size
        have hk2 : k < w2.heap.size := Nat.lt_of_lt_of_le hk1 hg2.size
        rw [hg4.block k (Nat.lt_of_lt_of_le hk2 hg3.size) (fun e => by injection e with e; omega), hg3.block k hk2 (fun e => by injection e with e; omega)]
        exact z2.block k hk hne
      have hsz4 : b < w4.heap.size := K4.lt
      have hs14 : w1.heap.size < w4.heap.size := hb4.lt
      clear K0 K2 K3 R0 R2 R3 hb2 hb3 hg2 hg3 hg4 G0
      go_wp2_with fail
      have V0 : ∀ w', Below w4.drew.heap.size w4.drew w' → Blk w' b (ccells C1 f1) := fun w' hb => K4.below (w := w4.drew) hb hsz4
      have V1 : ∀ w', Below w4.drew.heap.size w4.drew w' → Blk w' w1.heap.size (mcells ⟨l, now⟩) := fun w' hb => Blk.below (w := w4.drew) hb4 hb hs14
      have L1 : ∀ w', Below w4.drew.heap.size w4.drew w' → (Instr.loadAt 3 (.pointer (some ⟨b, 4, none⟩))).run Tryd.prog w' = .ok (.int .i64 C1.q.length) w' := fun w' hb => by
        have c4' : w'.cell? ⟨b, 4, none⟩ = some (.int .i64 C1.q.length) := (V0 w' hb).cell rfl
        go_simp
      have L2 : ∀ w', Below w4.drew.heap.size w4.drew w' → (Instr.loadAt 62 (.pointer (some ⟨w1.heap.size, 0, none⟩))).run Tryd.prog w' = .ok (.agg (mcells ⟨l, now⟩).toArray) w' := fun w' hb =>
        run_loadAt_mid w' w1.heap.size 0 62 (mcells ⟨l, now⟩) _ ((V1 w' hb).range 0 _ ⟨[], [], by simp, rfl⟩) Tryd.underlying62 rfl (by rw [infoMsg, mcells_len _ hl64])
      have L3 : ∀ w', (Instr.fieldAt 65 (.pointer (some ⟨b, 0, none⟩)) 4).run Tryd.prog w' = .ok (.pointer (some ⟨b, 4, none⟩)) w' := fun w' => by go_simp
      have L4 : ∀ (v u : Value) w', Below w4.drew.heap.size w4.drew w' → v = .pointer (some ⟨b, 0, none⟩) → u = .int .i64 C1.q.length → Calls Tryd.prog 18 #[v, u] w' fun e w'' => ∃ v, e = .returned v ∧ v = .pointer (some ⟨b, 6 + 66 * ((f1 + C1.q.length) % 16), none⟩) ∧ Below w'.heap.size w' w'' := by
        rintro v u w' hb rfl rfl
        refine (at_calls w' b f1 C1.q.length hf1 (by omega) ((V0 w' hb).cell rfl)).mono ?_
        rintro e w'' ⟨rfl, rfl⟩
        exact ⟨_, rfl, rfl, (Below.refl _ _).drew⟩
      let D : Nat → VD := fun i => ([.is (.pointer (some ⟨b, 0, none⟩)), .is (.pointer (some ⟨b, 0, none⟩)), .is (.pointer (some ⟨b, 0, none⟩)), .is (.pointer (some ⟨b, 4, none⟩)), .is (.int .i64 C1.q.length), .is (.pointer (some ⟨b, 6 + 66 * ((f1 + C1.q.length) % 16), none⟩)), .is (.agg (mcells ⟨l, now⟩).toArray), .is (.pointer (some ⟨b, 6 + 66 * ((f1 + C1.q.length) % 16), none⟩)), .is undef] : List VD).getD i (.is undef)
      refine region_monoL D 8 (by kernel_rfl) (by kernel_rfl) (by kernel_rfl) (by kernel_rfl) (by kernel_rfl) (fun i hi hne => ?_) ?_
      · match i, hi, hne with
        | 0, _, _ => exact mstep_first rfl (mwant_none rfl) 0 (Or.inl rfl) (by kernel_rfl) (fun _ _ => rfl)
        | 1, _, _ => exact mstep_first rfl (mwant_none rfl) 0 (Or.inl rfl) (by kernel_rfl) (fun _ _ => rfl)
        | 2, _, _ => exact mstep_nil rfl (mwant_none rfl) 55 rfl 1 (by kernel_rfl) rfl _ rfl rfl
        | 3, _, _ => exact mstep_field rfl (mwant_none rfl) 56 _ _ rfl 2 (by kernel_rfl) rfl _ _ rfl rfl L3
        | 4, _, _ => exact mstep_load rfl (mwant_none rfl) 57 _ rfl 3 (by kernel_rfl) rfl _ _ rfl rfl L1
        | 5, _, _ => exact mstep_call2 rfl (mwant_none rfl) _ 54 58 _ rfl (enters_of Tryd.func18 (by kernel_rfl) rfl) 0 4 (by kernel_rfl) (by kernel_rfl) rfl rfl L4
        | 6, _, _ => exact mstep_loadT rfl (mwant_none rfl) 7 _ rfl (by kernel_rfl) _ _ rfl rfl L2
        | 7, _, _ => exact mstep_nil rfl (mwant_none rfl) 59 rfl 5 (by kernel_rfl) rfl _ rfl rfl
        | 8, _, h => exact absurd rfl h
        | n + 9, h, _ => exact absurd h (by show ¬ (n + 9 < 9); omega)
      · intro o a w5 ho hb hde hts hok hor
        obtain rfl := Option.some.inj ho
        have e60 : a.tmps.getD 60 undef = .agg (mcells ⟨l, now⟩).toArray := hok 6 60 (by decide) rfl
        have e61 : a.tmps.getD 61 undef = .pointer (some ⟨b, 6 + 66 * ((f1 + C1.q.length) % 16), none⟩) := hok 7 61 (by decide) rfl
        have e0 : a.tmps.getD 0 undef = .pointer (some ⟨b, 0, none⟩) := hor 0 (fun i _ => free_dst (by kernel_rfl) i)
        have K5 := V0 w5 hb
        have hlen5 := ccells_len C1 hC1 f1
        have hml := mcells_len ⟨l, now⟩ hl64
        refine ⟨rfl, wp_store_mid 62 _ _ rfl b (6 + 66 * ((f1 + C1.q.length) % 16)) (mcells ⟨l, now⟩).toArray e61 e60 (K5.there _ _ (by simp only [List.size_toArray]; omega)) (by rw [infoMsg]; simp [hml]) (all_oneCell_toArray (mcells_one _)) ?_⟩
        have K6 := K5.setCells (mcells ⟨l, now⟩) (6 + 66 * ((f1 + C1.q.length) % 16)) (by omega)
        rw [ccells_store C1 hC1 f1 _ (Nat.mod_lt _ (by decide)) ⟨l, now⟩ hl64, ring_push f1 C1.q hf1 hn1 ⟨l, now⟩] at K6
        have G6 : w.grownBy (w5.setCells b (6 + 66 * ((f1 + C1.q.length) % 16)) (mcells ⟨l, now⟩)) (some b) := by
          refine World.grownBy.trans ?_ (grown_setCells _ _ _ _)
          refine ⟨hb.os.trans G4.os, hb.tape.trans G4.tape, hb.output.trans G4.output, Nat.le_trans G4.size hb.size, fun k hk hne => ?_⟩
          exact (hb.block k (Nat.lt_of_lt_of_le hk G4.size)).trans (G4.block k hk hne)
        show Exit.then _ _ Exit.normal a (w5.setCells b (6 + 66 * ((f1 + C1.q.length) % 16)) (mcells ⟨l, now⟩))
        obtain ⟨w6, hw6⟩ : ∃ w6, w6 = w5.setCells b (6 + 66 * ((f1 + C1.q.length) % 16)) (mcells ⟨l, now⟩) := ⟨_, rfl⟩
        rw [← hw6] at K6 G6 ⊢
        clear hw6 K5 V0 V1 L1 L2 L4 hb hor hok e60 e61
        obtain ⟨tm, df⟩ := a
        obtain rfl : df = [] := hde
        have hlit := lit_of 69 tm hts
        obtain ⟨F, hF⟩ : ∃ F : Nat → Value, F = fun i => tm.getD i undef := ⟨_, rfl⟩
        rw [← hF] at hlit
        have e0' : F 0 = .pointer (some ⟨b, 0, none⟩) := by rw [hF]; exact e0
        clear e0 hF hts
        have hlit2 : tm = #[F 0, F 1, F 2, F 3, F 4, F 5, F 6, F 7, F 8, F 9, F 10, F 11, F 12, F 13, F 14, F 15, F 16, F 17, F 18, F 19, F 20, F 21, F 22, F 23, F 24, F 25, F 26, F 27, F 28, F 29, F 30, F 31, F 32, F 33, F 34, F 35, F 36, F 37, F 38, F 39, F 40, F 41, F 42, F 43, F 44, F 45, F 46, F 47, F 48, F 49, F 50, F 51, F 52, F 53, F 54, F 55, F 56, F 57, F 58, F 59, F 60, F 61, F 62, F 63, F 64, F 65, F 66, F 67, F 68] := hlit
        clear hlit
        subst hlit2
        rw [e0']
        have c4 : w6.cell? ⟨b, 4, none⟩ = some (.int .i64 C1.q.length) := K6.cell rfl
        have f4 := K6.free 4
        obtain ⟨n1, hn1e⟩ : ∃ n1, Hid (n1 = C1.q.length) := ⟨_, rfl⟩
        rw [← hn1e.out] at c4
        have hn1' : n1 < 16 := by have := hn1e.out; omega
        have KK := Lib.hid K6; clear K6
        have GG := Lib.hid G6; clear G6
        refine (by assumption : ∀ (a : Act) (w : World), Code.wp _ _ _ a w → _) _ _ ?_
        go_wp2
        go_ret
        unfold RetSend
        rw [HP.out]
        refine ⟨rfl, ⟨f1, hf1, ?_⟩, GG.out.trans (grown_setCell _ _ _)⟩
        have := KK.out.setCell 4 (.int .i64 ((n1 : Int) + 1))
        have e : (hd C1 f1 C1.q.length ++ (ringL f1 (C1.q ++ [⟨l, now⟩])).flatten).set 4 (.int .i64 ((n1 : Int) + 1)) = ccells { C1 with q := C1.q ++ [⟨l, now⟩] } f1 := by
          unfold ccells
          rw [hn1e.out]
          simp [hd]
        rw [e] at this
        exact this
end Go.Proofs.YtiebpmpjclnpeaaDoor
/- Send in one contract; Receive. -/
namespace Go.Proofs.YtiebpmpjclnpeaaDoor
open Go.RowKit Nac
theorem send_calls (w : World) (B b : Nat) (C : Ch) (f : Nat) (A : Option Addr) (c : Nat) (l : List UInt8) (now : Nat) (hC : C.ok) (hf : f < 16) (h : Blk w b (ccells C f)) (hr : RB w B A l) (hB' : B ≤ w.heap.size) (hB : B ≤ b ∨ A.map (·.block) ≠ some b) (h8 : l.length ≤ 140737488351232) :
    Calls Tryd.prog 6 #[.pointer (some ⟨b, 0, none⟩), .slice A l.length c, .int .u64 now] w (RetSend w b C l now) := by
  have hlen := hC.len
  have hk2 := hC.kind
  by_cases hl : C.size < l.length
  · exact send_long w b C f A c l now hC hf h h8 hl
  · by_cases hq : C.q.length = C.most
    · by_cases hk : C.kind = 1
      · exact send_full1 w b C f A c l now hC hf h h8 (by omega) hq hk
      · by_cases hk' : C.kind = 2
        · exact send_full2 w b C f A c l now hC hf h h8 (by omega) hq hk'
        · exact send_push w B b C f A c l now hC hf h hr hB' hB (by omega) (.inr ⟨hq, by omega⟩)
    · exact send_push w B b C f A c l now hC hf h hr hB' hB (by omega) (.inl (by omega))
theorem OB.setCells {base g c : Nat} : ∀ (vs : List UInt8) (o : Nat) {w : World} {l : List UInt8}, OB w base (some ⟨g, 0, none⟩) c l → o + vs.length ≤ l.length → OB (w.setCells g o (vs.map bv)) base (some ⟨g, 0, none⟩) c (l.take o ++ vs ++ l.drop (o + vs.length))
  | [], o, w, l, h, _ => by simpa [World.setCells] using h
  | v :: vs, o, w, l, h, hl => by
    rw [List.map_cons, World.setCells]
    have hl' : o + 1 + vs.length ≤ l.length := by simp at hl; omega
    have := OB.setCells vs (o + 1) (h.set o v rfl) (by simpa using hl')
    have e : (l.set o v).take (o + 1) ++ vs ++ (l.set o v).drop (o + 1 + vs.length) = l.take o ++ (v :: vs) ++ l.drop (o + (v :: vs).length) := by
      rw [List.take_succ_eq_append_getElem (by simp; omega), List.getElem_set_self, List.take_set_of_le (by omega), List.drop_set_of_lt (by omega)]
      simp [Nat.add_assoc, Nat.add_comm 1]
    rw [e] at this
    exact this
/-- copy(b, m.data[:]) -/
theorem wpList_copyOut {w : World} {ops : Array Oper} {rest : List Oper} {o : Oper} {a : Act} {Q : Exit → Act → World → Prop} (hg : o.guard = none) (d s : Operand) (hop : o.op = .call { callee := .builtin .copy, args := #[d, s], argTypes := #[40, 40] })
    (base g n h c : Nat) (m : Msg) (hn : n = m.b.length) (hd : a.eval d = .slice (some ⟨g, 0, none⟩) n n) (hs : a.eval s = .slice (some ⟨h, 0, none⟩) 64 c) (hl : m.b.length ≤ 64) (L : List UInt8) (ho : OB w base (some ⟨g, 0, none⟩) n L) (hL : L.length = n) (hb : Blk w h (mcells m))
    (hK : ∀ w', OB w' base (some ⟨g, 0, none⟩) n m.b → w.grownBy w' (some g) → wpList Tryd.prog ops Q rest (a.put o.dst (goInt n)) w') : wpList Tryd.prog ops Q (o :: rest) a w := by
  have hi1 : (Tryd.prog.info? 5).map (·.size) = some 1 := by kernel_rfl
  have hmin : Nat.min 64 n = n := Nat.min_eq_right (by omega)
  have hob : OB (w.setCells g 0 (m.b.map bv)) base (some ⟨g, 0, none⟩) n m.b := by
    have := OB.setCells m.b 0 ho (by omega)
    rw [List.take_zero, List.nil_append, List.drop_of_length_le (by omega), List.append_nil] at this
    exact this
  have hrun : (Builtin.copy_ #[40, 40] o.type #[.slice (some ⟨g, 0, none⟩) n n, .slice (some ⟨h, 0, none⟩) 64 c]).run Tryd.prog w = .ok (goInt n) (w.setCells g 0 (m.b.map bv)) := by
    have := run_copy_cells (P := Tryd.prog) w 40 40 o.type 5 g 0 n n ⟨h, 0, none⟩ 64 c (m.b.map bv) Tryd.underlying40 hi1 (by rw [List.length_map, hmin, hn])
      (fun j v hv => by
        have hj : j < m.b.length := by simpa using (List.getElem?_eq_some_iff.1 hv).1
        rw [Addr.add_mid, Nat.zero_add]
        refine hb.cell ?_
        unfold mcells pad
        rw [List.getElem?_append_left (by simp; omega), List.map_append, List.getElem?_append_left (by simpa using hj)]
        exact hv)
      (fun j hj => by rw [Nat.zero_add, ho.cellAt (k := j) (by simp at hj; omega)]; rfl) (fun j hj => by rw [Nat.zero_add]; exact ho.freeAt j) (bv_oneCell m.b)
    rw [List.length_map, ← hn] at this
    exact this
  refine wpList_plain hg fun K hKK => ?_
  unfold Oper.wp
  simp [execOp, hop, resolve, invoke, builtin, hd, hs, hrun, Result.andThen]
  exact hKK _ _ (hK _ hob (grown_setCells _ _ _ _))
def RetRecv (w : World) (b : Nat) (C : Ch) (now : Nat) (e : Ending) (w' : World) : Prop :=
  ∃ A c, e = .returned (.tuple #[.slice A (C.recv now).2.1.length c, .int .u64 (C.recv now).2.2.1, .int .i64 (C.recv now).2.2.2]) ∧ OB w' w.heap.size A c (C.recv now).2.1 ∧ (∃ f', f' < 16 ∧ Blk w' b (ccells (C.recv now).1 f')) ∧ w.grownBy w' (some b)
set_option maxHeartbeats 2000000 in
theorem recv_none (w : World) (b : Nat) (C : Ch) (f : Nat) (now : Nat) (hf : f < 16) (h : Blk w b (ccells C f)) (hq : C.q = []) :
    Calls Tryd.prog 11 #[.pointer (some ⟨b, 0, none⟩), .int .u64 now] w (RetRecv w b C now) := by
  have hs : C.recv now = (C, [], 0, 6) := by unfold Ch.recv; rw [hq]
  have HS := Lib.hid hs; clear hs
  have c4 : w.cell? ⟨b, 4, none⟩ = some (.int .i64 C.q.length) := h.cell rfl
  rw [hq] at c4
  have c4' : w.cell? ⟨b, 4, none⟩ = some (.int .i64 0) := c4
  clear c4 hq
  go_enter Tryd.func11, Tryd.ntmps11
  go_wp2
  go_ret3
  unfold RetRecv
  rw [HS.out]
  exact ⟨none, 0, rfl, OB.nil _ _, ⟨f, hf, h⟩, World.grownBy.refl w _⟩
theorem mcells_64 (m : Msg) (h : m.b.length ≤ 64) : (mcells m)[64]? = some (.int .i64 m.b.length) := by
  unfold mcells
  have e : ((pad m.b).map bv).length = 64 := by simp [pad]; omega
  rw [List.getElem?_append_right (by omega), e]
  rfl
theorem mcells_65 (m : Msg) (h : m.b.length ≤ 64) : (mcells m)[65]? = some (.int .u64 m.at_) := by
  unfold mcells
  have e : ((pad m.b).map bv).length = 64 := by simp [pad]; omega
  rw [List.getElem?_append_right (by omega), e]
  rfl
set_option maxHeartbeats 4000000 in
theorem recv_some (w : World) (b : Nat) (C : Ch) (f : Nat) (now : Nat) (hC : C.ok) (hf : f < 16) (h : Blk w b (ccells C f)) (m : Msg) (r : List Msg) (hq : C.q = m :: r) (hnow : now ≤ 18446744073709551615) :
    Calls Tryd.prog 11 #[.pointer (some ⟨b, 0, none⟩), .int .u64 now] w (RetRecv w b C now) := by
  have hs : C.recv now = (if C.kind = 0 then C else { C with q := r }, m.b, now - m.at_, 0) := by unfold Ch.recv; rw [hq]
  obtain ⟨hl, hat⟩ := hC.fit m (by rw [hq]; exact List.mem_cons_self)
  have hml := mcells_len m hl
  have c0 : w.cell? ⟨b, 0, none⟩ = some (.int .i64 C.kind) := h.cell rfl
  have c3 : w.cell? ⟨b, 3, none⟩ = some (.int .i64 f) := h.cell rfl
  have c4 : w.cell? ⟨b, 4, none⟩ = some (.int .i64 C.q.length) := h.cell rfl
  obtain ⟨k, hk⟩ : ∃ k, k = C.q.length := ⟨_, rfl⟩
  have hk1 : 1 ≤ k := by rw [hk, hq]; simp
  rw [← hk] at c4
  have HKL := Lib.hid hk; clear hk
  obtain ⟨n, hn⟩ : ∃ n, n = m.b.length := ⟨_, rfl⟩
  have hn64 : n ≤ 64 := by omega
  have HN := Lib.hid hn; clear hn
  have HQ := Lib.hid hq
  have hslot := ccells_slot C hC f f hf
  rw [slot_front f C.q hf m r hq] at hslot
  have hne : C.q ≠ [] := by rw [hq]; simp
  have HNE := Lib.hid hne; clear hne
  have HSL := Lib.hid hslot; clear hslot
  have hbw := h.lt
  clear hq
  obtain ⟨G, hGe⟩ : ∃ G, Hid (G = w.heap.size) := ⟨_, rfl⟩
  by_cases hk0 : C.kind = 0
  · rw [if_pos hk0] at hs
    have HS := Lib.hid hs; clear hs
    have HK0 := Lib.hid hk0
    go_enter Tryd.func11, Tryd.ntmps11
    go_wp2_with fail
    refine (at_calls w b f 0 hf (by omega) c3).mono ?_
    rintro e w' ⟨rfl, rfl⟩
    rw [Nat.add_zero, Nat.mod_eq_of_lt hf]
    have K1 : Blk w.drew b (ccells C f) := h
    go_wp2_with (first
      | ((with_reducible show wpList _ _ _ (Oper.mk _ (Op.load 62 _) _ _ _ _ :: _) _ _); refine wpList_loadMsg rfl _ rfl b (6 + 66 * f) (ccells C f) (mcells m) rfl K1 HSL.out hml ?_)
      | ((with_reducible show wpList _ _ _ (Oper.mk _ (Op.alloc _) _ _ _ _ :: _) _ _); refine wpList_allocMsg rfl rfl ?_))
    intro w2 hb2 hg2
    have K2 := K1.grown hg2 (by simp)
    rw [← hGe.out] at hb2 ⊢
    go_wp2_with ((with_reducible show wpList _ _ _ (Oper.mk _ (Op.store 62 _ _) _ _ _ _ :: _) _ _); refine wpList_storeMsg rfl _ _ rfl G 0 (mcells zmsg) (mcells m) rfl rfl hb2 hml (by rw [mcells_len _ (by simp [zmsg])]; decide) (mcells_one _) (mcells m) (by rw [List.take_zero, List.nil_append, List.drop_of_length_le (by rw [mcells_len _ (by simp [zmsg]), hml]; decide), List.append_nil]) ?_)
    intro w4 hb4 hg3
    have K3 := K2.grown hg3 (fun e => by injection e with e; have := hGe.out; omega)
    have c0' : w4.cell? ⟨b, 0, none⟩ = some (.int .i64 C.kind) := K3.cell rfl
    have G4 : w.grownBy w4 (some b) := ⟨hg3.os.trans hg2.os, hg3.tape.trans hg2.tape, hg3.output.trans hg2.output, Nat.le_trans hg2.size hg3.size, fun k hk _ => by
      rw [hg3.block k (Nat.lt_of_lt_of_le hk hg2.size) (fun e => by injection e with e; have := hGe.out; omega)]
      exact hg2.block k hk (by simp)⟩
    clear hg2 hg3 hb2 K1 K2 c0 c3 c4 h
    rw [hk0] at c0'
    clear hk0
    have K4 : ∃ f', f' < 16 ∧ Blk w4 b (ccells (C.recv now).1 f') := by rw [HS.out]; exact ⟨f, hf, K3⟩
    have HS2 : Hid ((C.recv now).2 = (m.b, now - m.at_, 0)) := by show _ = _; rw [HS.out]
    clear K3 HS
    have c64 : w4.cell? ⟨G, 64, none⟩ = some (.int .i64 n) := hb4.cell (by rw [HN.out]; exact mcells_64 m hl)
    have c65 : w4.cell? ⟨G, 65, none⟩ = some (.int .u64 m.at_) := hb4.cell (mcells_65 m hl)
    have hGlt : G < w4.heap.size := hb4.lt
    have hbase : w.heap.size ≤ w4.heap.size := G4.size
    go_wp2_with (at_make; refine wpList_makeN_bytes w4 rfl _ _ rfl w.heap.size .i64 .i64 _ n rfl rfl rfl (by omega) hbase ?_)
    intro w5 L HL ho5 hg5
    have hb5 := hb4.grown hg5 (by simp)
    have hLl : L.length = n := by rw [HL.out]; simp
    have HLL := Lib.hid hLl; clear hLl
    have hb40 : b < w4.heap.size := by have := hGe.out; omega
    obtain ⟨f9, hf9, K4⟩ := K4
    have K5 := K4.grown hg5 (by simp)
    clear c64
    go_wp2_with (refine wpList_copyOut rfl _ _ rfl w.heap.size w4.heap.size n G 64 m HN.out rfl rfl hl L ho5 HLL.out hb5 ?_)
    intro w6 ho6 hg6
    have hb6 := hb5.grown hg6 (fun e => by injection e with e; omega)
    have K6 := K5.grown hg6 (fun e => by injection e with e; omega)
    have c65' : w6.cell? ⟨G, 65, none⟩ = some (.int .u64 m.at_) := hb6.cell (mcells_65 m hl)
    have G6 : w.grownBy w6 (some b) := ⟨hg6.os.trans (hg5.os.trans G4.os), hg6.tape.trans (hg5.tape.trans G4.tape), hg6.output.trans (hg5.output.trans G4.output), Nat.le_trans G4.size (Nat.le_trans hg5.size hg6.size), fun k hk hne => by
      have hk4 : k < w4.heap.size := Nat.lt_of_lt_of_le hk hbase
      rw [hg6.block k (Nat.lt_of_lt_of_le hk4 hg5.size) (fun e => by injection e with e; omega), hg5.block k hk4 (by simp)]
      exact G4.block k hk hne⟩
    obtain ⟨t, ht⟩ : ∃ t : Int, Hid (t = (m.at_ : Int)) := ⟨_, rfl⟩
    obtain ⟨u, hu⟩ : ∃ u : Int, Hid (u = (now : Int)) := ⟨_, rfl⟩
    rw [← ht.out] at c65'
    have t0 : 0 ≤ t := by have := ht.out; omega
    have t1 : t ≤ 18446744073709551615 := by have := ht.out; omega
    have u0 : 0 ≤ u := by have := hu.out; omega
    have u1 : u ≤ 18446744073709551615 := by have := hu.out; omega
    have hfin : ∀ e, e = Ending.returned (.tuple #[.slice (some ⟨w4.heap.size, 0, none⟩) n n, .int .u64 ((now - m.at_ : Nat) : Int), .int .i64 0]) → RetRecv w b C now e w6 := by
      rintro e rfl
      unfold RetRecv
      rw [HS2.out]
      exact ⟨_, n, by rw [← HN.out], ho6, ⟨f9, hf9, K6⟩, G6⟩
    have HF := Lib.hid hfin; clear hfin
    clear hb4 hb5 hb6 ho5 ho6 hg5 hg6 K4 K5 K6 G4 G6 c65 hnow hat
    rw [← hu.out]
    by_cases hlt : m.at_ < now
    · have h2 : t < u := by have := ht.out; have := hu.out; omega
      have HLT := Lib.hid hlt; clear hlt
      go_wp2
      go_ret3
      refine HF.out _ ?_
      have e : ((now - m.at_ : Nat) : Int) = u - t := by have := ht.out; have := hu.out; have := HLT.out; omega
      rw [e]
      rfl
    · have h2 : u ≤ t := by have := ht.out; have := hu.out; omega
      have HLT := Lib.hid hlt; clear hlt
      go_wp2
      go_ret3
      refine HF.out _ ?_
      have e : ((now - m.at_ : Nat) : Int) = 0 := by have := HLT.out; omega
      rw [e]
      rfl
  · rw [if_neg hk0] at hs
    have HS := Lib.hid hs; clear hs
    have hk01 : 1 ≤ C.kind := by omega
    go_enter Tryd.func11, Tryd.ntmps11
    go_wp2_with fail
    refine (at_calls w b f 0 hf (by omega) c3).mono ?_
    rintro e w' ⟨rfl, rfl⟩
    rw [Nat.add_zero, Nat.mod_eq_of_lt hf]
    have K1 : Blk w.drew b (ccells C f) := h
    go_wp2_with (first
      | ((with_reducible show wpList _ _ _ (Oper.mk _ (Op.load 62 _) _ _ _ _ :: _) _ _); refine wpList_loadMsg rfl _ rfl b (6 + 66 * f) (ccells C f) (mcells m) rfl K1 HSL.out hml ?_)
      | ((with_reducible show wpList _ _ _ (Oper.mk _ (Op.alloc _) _ _ _ _ :: _) _ _); refine wpList_allocMsg rfl rfl ?_))
    intro w2 hb2 hg2
    have K2 := K1.grown hg2 (by simp)
    rw [← hGe.out] at hb2 ⊢
    go_wp2_with ((with_reducible show wpList _ _ _ (Oper.mk _ (Op.store 62 _ _) _ _ _ _ :: _) _ _); refine wpList_storeMsg rfl _ _ rfl G 0 (mcells zmsg) (mcells m) rfl rfl hb2 hml (by rw [mcells_len _ (by simp [zmsg])]; decide) (mcells_one _) (mcells m) (by rw [List.take_zero, List.nil_append, List.drop_of_length_le (by rw [mcells_len _ (by simp [zmsg]), hml]; decide), List.append_nil]) ?_)
    intro w3 hb3 hg3
    have K3 := K2.grown hg3 (fun e => by injection e with e; have := hGe.out; omega)
    have c0' : w3.cell? ⟨b, 0, none⟩ = some (.int .i64 C.kind) := K3.cell rfl
    have G3 : w.grownBy w3 (some b) := ⟨hg3.os.trans hg2.os, hg3.tape.trans hg2.tape, hg3.output.trans hg2.output, Nat.le_trans hg2.size hg3.size, fun k hk _ => by
      rw [hg3.block k (Nat.lt_of_lt_of_le hk hg2.size) (fun e => by injection e with e; have := hGe.out; omega)]
      exact hg2.block k hk (by simp)⟩
    clear hg2 hg3 hb2 K1 K2 c0 c3 c4 h
    clear hk0
    go_wp2_with fail
    refine (remove_calls w3 b C f hC hf HNE.out K3).mono ?_
    rintro e w4 ⟨rfl, K4', G4'⟩
    have K4 : ∃ f', f' < 16 ∧ Blk w4 b (ccells (C.recv now).1 f') := by
      rw [HS.out]
      refine ⟨(f + 1) % 16, Nat.mod_lt _ (by decide), ?_⟩
      have := K4'
      rw [show C.q.tail = r by rw [HQ.out]; rfl] at this
      exact this
    have HS2 : Hid ((C.recv now).2 = (m.b, now - m.at_, 0)) := by show _ = _; rw [HS.out]
    have hb4 := hb3.grown G4' (fun e => by injection e with e; have := hGe.out; omega)
    have G4 := G3.trans G4'
    clear K3 HS K4' G4' G3 hb3 c0'
    have c64 : w4.cell? ⟨G, 64, none⟩ = some (.int .i64 n) := hb4.cell (by rw [HN.out]; exact mcells_64 m hl)
    have c65 : w4.cell? ⟨G, 65, none⟩ = some (.int .u64 m.at_) := hb4.cell (mcells_65 m hl)
    have hGlt : G < w4.heap.size := hb4.lt
    have hbase : w.heap.size ≤ w4.heap.size := G4.size
    go_wp2_with (at_make; refine wpList_makeN_bytes w4 rfl _ _ rfl w.heap.size .i64 .i64 _ n rfl rfl rfl (by omega) hbase ?_)
    intro w5 L HL ho5 hg5
    have hb5 := hb4.grown hg5 (by simp)
    have hLl : L.length = n := by rw [HL.out]; simp
    have HLL := Lib.hid hLl; clear hLl
    have hb40 : b < w4.heap.size := by have := hGe.out; omega
    obtain ⟨f9, hf9, K4⟩ := K4
    have K5 := K4.grown hg5 (by simp)
    clear c64
    go_wp2_with (refine wpList_copyOut rfl _ _ rfl w.heap.size w4.heap.size n G 64 m HN.out rfl rfl hl L ho5 HLL.out hb5 ?_)
    intro w6 ho6 hg6
    have hb6 := hb5.grown hg6 (fun e => by injection e with e; omega)
    have K6 := K5.grown hg6 (fun e => by injection e with e; omega)
    have c65' : w6.cell? ⟨G, 65, none⟩ = some (.int .u64 m.at_) := hb6.cell (mcells_65 m hl)
    have G6 : w.grownBy w6 (some b) := ⟨hg6.os.trans (hg5.os.trans G4.os), hg6.tape.trans (hg5.tape.trans G4.tape), hg6.output.trans (hg5.output.trans G4.output), Nat.le_trans G4.size (Nat.le_trans hg5.size hg6.size), fun k hk hne => by
      have hk4 : k < w4.heap.size := Nat.lt_of_lt_of_le hk hbase
      rw [hg6.block k (Nat.lt_of_lt_of_le hk4 hg5.size) (fun e => by injection e with e; omega), hg5.block k hk4 (by simp)]
      exact G4.block k hk hne⟩
    obtain ⟨t, ht⟩ : ∃ t : Int, Hid (t = (m.at_ : Int)) := ⟨_, rfl⟩
    obtain ⟨u, hu⟩ : ∃ u : Int, Hid (u = (now : Int)) := ⟨_, rfl⟩
    rw [← ht.out] at c65'
    have t0 : 0 ≤ t := by have := ht.out; omega
    have t1 : t ≤ 18446744073709551615 := by have := ht.out; omega
    have u0 : 0 ≤ u := by have := hu.out; omega
    have u1 : u ≤ 18446744073709551615 := by have := hu.out; omega
    have hfin : ∀ e, e = Ending.returned (.tuple #[.slice (some ⟨w4.heap.size, 0, none⟩) n n, .int .u64 ((now - m.at_ : Nat) : Int), .int .i64 0]) → RetRecv w b C now e w6 := by
      rintro e rfl
      unfold RetRecv
      rw [HS2.out]
      exact ⟨_, n, by rw [← HN.out], ho6, ⟨f9, hf9, K6⟩, G6⟩
    have HF := Lib.hid hfin; clear hfin
    clear hb4 hb5 hb6 ho5 ho6 hg5 hg6 K4 K5 K6 G4 G6 c65 hnow hat
    rw [← hu.out]
    by_cases hlt : m.at_ < now
    · have h2 : t < u := by have := ht.out; have := hu.out; omega
      have HLT := Lib.hid hlt; clear hlt
      go_wp2
      go_ret3
      refine HF.out _ ?_
      have e : ((now - m.at_ : Nat) : Int) = u - t := by have := ht.out; have := hu.out; have := HLT.out; omega
      rw [e]
      rfl
    · have h2 : u ≤ t := by have := ht.out; have := hu.out; omega
      have HLT := Lib.hid hlt; clear hlt
      go_wp2
      go_ret3
      refine HF.out _ ?_
      have e : ((now - m.at_ : Nat) : Int) = 0 := by have := HLT.out; omega
      rw [e]
      rfl
theorem recv_calls (w : World) (b : Nat) (C : Ch) (f : Nat) (now : Nat) (hC : C.ok) (hf : f < 16) (h : Blk w b (ccells C f)) (hnow : now ≤ 18446744073709551615) :
    Calls Tryd.prog 11 #[.pointer (some ⟨b, 0, none⟩), .int .u64 now] w (RetRecv w b C now) := by
  cases hq : C.q with
  | nil => exact recv_none w b C f now hf h hq
  | cons m r => exact recv_some w b C f now hC hf h m r hq hnow
end Go.Proofs.YtiebpmpjclnpeaaDoor
/- New. -/
namespace Go.Proofs.YtiebpmpjclnpeaaDoor
open Go.RowKit Nac
def newcells (k m s : Int) : List Value := [.int .i64 k, .int .i64 m, .int .i64 s, .int .i64 0, .int .i64 0, .int .u64 0] ++ (List.replicate 16 (mcells zmsg)).flatten
theorem builtC (k m s : Int) : Tryd.prog.built 65 [(0, .int .i64 k), (1, .int .i64 m), (2, .int .i64 s)] = some (newcells k m s).toArray := by kernel_rfl
theorem newcells_eq (k m s : Nat) : newcells k m s = ccells ⟨k, m, s, 0, []⟩ 0 := by
  unfold newcells ccells hd
  have e : ringL 0 [] = List.replicate 16 (mcells zmsg) := by
    unfold ringL
    apply List.ext_getElem (by simp)
    intro i h1 h2
    rw [List.getElem_map, List.getElem_replicate]
    rfl
  rw [e]
  rfl
section
variable {w : World} {ops : Array Oper} {rest : List Oper} {o : Oper} {a : Act} {Q : Exit → Act → World → Prop}
theorem wpList_newchan (hg : o.guard = none) (x y z : Operand) (hop : o.op = .build 65 #[(0, x), (1, y), (2, z)]) (k m s : Int) (hx : a.eval x = .int .i64 k) (hy : a.eval y = .int .i64 m) (hz : a.eval z = .int .i64 s)
    (h : wpList Tryd.prog ops Q rest (a.put o.dst (.agg (newcells k m s).toArray)) w) : wpList Tryd.prog ops Q (o :: rest) a w := by
  have hf : Tryd.prog.built 65 ((#[(0, x), (1, y), (2, z)] : Array (Nat × Operand)).map fun (i, x) => (i, a.eval x)).toList = some (newcells k m s).toArray := by simpa [hx, hy, hz] using builtC k m s
  refine wpList_build hg 65 #[(0, x), (1, y), (2, z)] hop (by rw [hf]; rfl) ?_
  rw [hf]
  exact h
theorem wpList_boxCells (hg : o.guard = none) (t : TypeId) (x : Operand) (hop : o.op = .box t x) (cs : List Value) (hx : a.eval x = .agg cs.toArray)
    (h : ∀ w', Blk w' w.heap.size cs → w.grownBy w' none → wpList Tryd.prog ops Q rest (a.put o.dst (.pointer (some ⟨w.heap.size, 0, none⟩))) w') : wpList Tryd.prog ops Q (o :: rest) a w := by
  refine wpList_plain hg fun K hK => ?_
  have hr : (Instr.box t (.agg cs.toArray)).run Tryd.prog w = .ok (.pointer (some ⟨w.heap.size, 0, none⟩)) (w.alloc (.cells cs.toArray t)) := by
    simp [Instr.box, newVar, newRow, Value.cells]
  unfold Oper.wp execOp
  simp only [hop, hx, Sem.run_bind, hr, Result.andThen_ok]
  exact hK _ _ (h _ (Blk.new w _ _) (World.grownBy_alloc w _ none))
end
def NewOk (k m s : Int) : Prop := 0 ≤ s ∧ s ≤ 64 ∧ ((k = 0 ∧ m = 1) ∨ ((k = 1 ∨ k = 2) ∧ 1 ≤ m ∧ m ≤ 16))
set_option maxHeartbeats 2000000 in
theorem new_bad (w : World) (k m s : Int) (h : ¬ NewOk k m s) :
    Calls Tryd.prog 4 #[.int .i64 k, .int .i64 m, .int .i64 s] w fun e w' => e = .returned (.tuple #[.pointer none, .int .i64 1]) ∧ w = w' := by
  have h2 : (k < 0 ∨ 2 < k) ∨ (k = 0 ∧ (m < 1 ∨ 1 < m)) ∨ (k = 0 ∧ m = 1 ∧ s < 0) ∨ (k = 0 ∧ m = 1 ∧ 64 < s) ∨ ((k = 1 ∨ k = 2) ∧ (m < 1 ∨ 16 < m)) ∨ ((k = 1 ∨ k = 2) ∧ 1 ≤ m ∧ m ≤ 16 ∧ s < 0) ∨ ((k = 1 ∨ k = 2) ∧ 1 ≤ m ∧ m ≤ 16 ∧ 64 < s) := by
    unfold NewOk at h; omega
  clear h
  rcases h2 with (h | h) | ⟨rfl, h | h⟩ | ⟨rfl, rfl, h⟩ | ⟨rfl, rfl, h⟩ | ⟨rfl | rfl, h | h⟩ | ⟨rfl | rfl, h1, h2, h⟩ | ⟨rfl | rfl, h1, h2, h⟩
  all_goals
    go_enter Tryd.func4, Tryd.ntmps4
    go_wp2
    go_ret2
    exact ⟨rfl, rfl⟩
set_option maxHeartbeats 2000000 in
theorem new_ok (w : World) (k m s : Int) (h : NewOk k m s) :
    Calls Tryd.prog 4 #[.int .i64 k, .int .i64 m, .int .i64 s] w fun e w' => e = .returned (.tuple #[.pointer (some ⟨w.heap.size, 0, none⟩), .int .i64 0]) ∧ Blk w' w.heap.size (ccells ⟨k.toNat, m.toNat, s.toNat, 0, []⟩ 0) ∧ w.grownBy w' none := by
  have he := newcells_eq k.toNat m.toNat s.toNat
  rw [Int.toNat_of_nonneg (by unfold NewOk at h; omega), Int.toNat_of_nonneg (by unfold NewOk at h; omega), Int.toNat_of_nonneg (by unfold NewOk at h; omega)] at he
  rw [← he]
  clear he
  obtain ⟨h1, h2, ⟨rfl, rfl⟩ | ⟨rfl | rfl, h3, h4⟩⟩ := h
  all_goals
    go_enter Tryd.func4, Tryd.ntmps4
    go_wp2_with (first
      | ((with_reducible show wpList _ _ _ (Oper.mk _ (Op.build _ _) _ _ _ _ :: _) _ _); refine wpList_newchan rfl _ _ _ rfl _ _ _ rfl rfl rfl ?_)
      | ((with_reducible show wpList _ _ _ (Oper.mk _ (Op.box _ _) _ _ _ _ :: _) _ _); refine wpList_boxCells rfl _ _ rfl _ rfl ?_))
    intro w2 hb2 hg2
    have HB := Lib.hid hb2; clear hb2
    have HG := Lib.hid hg2; clear hg2
    go_wp2
    go_ret2
    exact ⟨rfl, HB.out, HG.out⟩
end Go.Proofs.YtiebpmpjclnpeaaDoor
/- Rows of strings that a call makes itself. -/
namespace Go.Proofs.YtiebpmpjclnpeaaDoor
open Go.RowKit Nac
/-- bytes, as a string's value -/
def sv (l : List UInt8) : Value := .string (strB l)
theorem Tryd.infoString : (Tryd.prog.info? 9).map (fun i => (i.zero, i.size, i.bytes)) = some (some (.string ⟨#[]⟩), 1, 16) := by kernel_rfl
/-- the slice at A, of capacity c, is the call's own (from block 'base' on) and holds the texts L -/
def OS (w : World) (base : Nat) (A : Option Addr) (c : Nat) (L : List (List UInt8)) : Prop := w.ownsRow base 9 1 (.slice A L.length c) L.length (L.map sv)
section
variable {w w' : World} {base B : Nat} {A : Option Addr} {c : Nat} {L : List (List UInt8)}
theorem OS.nil (w : World) (base : Nat) : OS w base none 0 [] := World.ownsRow_nil w base _ _
theorem OS.kept (h : OS w base A c L) {row : Option Nat} (hg : w.grownBy w' row) (hne : A = none ∨ A.map (·.block) ≠ row) : OS w' base A c L :=
  World.ownsRow.kept h hg (by cases A <;> simp_all [Value.ownBlock])
theorem OS.alloc (h : OS w base A c L) (o : Obj) : OS (w.alloc o) base A c L := World.ownsRow.alloc h o
theorem OS.drew (h : OS w base A c L) : OS w.drew base A c L := h
theorem OS.drewN (h : OS w base A c L) (n : Nat) : OS (w.drewN n) base A c L := h
theorem OS.lt (h : OS w base A c L) : ∀ g, A.map (·.block) = some g → base ≤ g ∧ g < w.heap.size := fun g hg => World.ownsRow.lt h g (by cases A <;> simp_all [Value.ownBlock])
theorem OS.below (h : OS w base A c L) (hb : Below B w w') (hB : w.heap.size ≤ B) : OS w' base A c L := by
  refine World.ownsRow.kept h (row := none) ⟨hb.os, hb.tape, hb.output, hb.size, fun k hk _ => hb.block k (by omega)⟩ ?_
  cases A <;> simp [Value.ownBlock]
theorem OS.get (h : OS w base A c L) {j : Nat} (hj : j < L.length) : ∃ g, A = some ⟨g, 0, none⟩ ∧ base ≤ g ∧ g < w.heap.size ∧ w.cell? ⟨g, j, none⟩ = some (.string (strB L[j])) := by
  rcases h.2 with ⟨hv, hn⟩ | ⟨g, cap, cur, hv, hb, hg, hnc, hcm, hcs, ht⟩
  · omega
  · injection hv with h1 h2 h3
    subst h1
    refine ⟨g, rfl, hb, (Array.getElem?_eq_some_iff.1 hg).1, ?_⟩
    rw [cell_of_row w g j cur _ (0, 0) hg]
    have e : (L.map sv)[j]? = some (sv L[j]) := by simp [hj]
    rw [← ht, List.getElem?_take_of_lt (by omega)] at e
    simpa [sv] using e
/-- where a row lies behind an append: where it lay, or in a new block -/
def AtOr (A A' : Option Addr) (n : Nat) : Prop := A'.map (·.block) = A.map (·.block) ∨ A'.map (·.block) = some n
theorem OS.apart {w : World} {base : Nat} {A A' A2 : Option Addr} {c2 : Nat} {L2 : List (List UInt8)} (h2 : OS w base A2 c2 L2) (hne : A2 = none ∨ A2.map (·.block) ≠ A.map (·.block)) (h4 : AtOr A A' w.heap.size) :
    A2 = none ∨ A2.map (·.block) ≠ A'.map (·.block) := by
  rcases hne with h | h
  · exact .inl h
  · cases hA2 : A2.map (·.block) with
    | none => exact .inl (by cases A2 with | none => rfl | some a => cases hA2)
    | some g =>
      refine .inr fun e => ?_
      rcases h4 with h4 | h4
      · exact h (by rw [hA2, ← h4]; exact e)
      · have := (h2.lt g hA2).2
        rw [h4] at e
        injection e with e
        omega
end
/-- append of one text onto texts of the call's own -/
theorem wpList_app_str (w : World) {ops : Array Oper} {rest : List Oper} {o : Oper} {a : Act} {Q : Exit → Act → World → Prop} (hgd : o.guard = none) (s x : Operand)
    (ho : o.op = .call { callee := .builtin .append, args := #[s, x], argTypes := #[47, 47] })
    (base : Nat) (A : Option Addr) (c : Nat) (L : List (List UInt8)) (n : Nat) (hs : a.eval s = .slice A n c) (hn : n = L.length) (hown : OS w base A c L)
    (g c2 : Nat) (l : List UInt8) (hx : a.eval x = .slice (some ⟨g, 0, none⟩) 1 c2) (hsrc : w.cell? ⟨g, 0, none⟩ = some (.string (strB l)))
    (hlen : L.length ≤ 1000000) (hbase : base ≤ w.heap.size)
    (h : ∀ A' c' L' w', Hid (L' = L ++ [l]) → OS w' base A' c' L' → w.grownBy w' (A.map (·.block)) → AtOr A A' w.heap.size →
      wpList Tryd.prog ops Q rest (a.put o.dst (.slice A' L'.length c')) w') : wpList Tryd.prog ops Q (o :: rest) a w := by
  subst hn
  refine wpList_app w hgd s x 47 ho base 9 (.string ⟨#[]⟩) 1 16 Tryd.underlying47 Tryd.infoString rfl (by decide) A L.length c (L.map sv) hs hown (some ⟨g, 0, none⟩) 1 c2 [sv l] hx (by simp)
    (fun _ => ⟨_, rfl, fun j u hu => ?_⟩) (fun u hu => by simp at hu; subst hu; rfl) (by omega) (by unfold maxLen; omega) hbase ?_
  · have hj : j = 0 := by have := (List.getElem?_eq_some_iff.1 hu).1; simpa using this
    subst hj
    simp at hu
    subst hu
    simpa [Addr.add, sv] using hsrc
  · intro A' c' w' h2 h3 h4
    have := h A' c' (L ++ [l]) w' rfl (by unfold OS; rw [List.map_append, List.length_append]; exact h2) h3 h4
    rw [List.length_append] at this
    exact this
end Go.Proofs.YtiebpmpjclnpeaaDoor
/- NacelleGuard: what its loop remembers. -/
namespace Go.Proofs.YtiebpmpjclnpeaaDoor
open Go.RowKit Nac Nac.Gram
/-- a message as it comes -/
structure MsgI where
  A : Option Addr
  c : Nat
  b : List UInt8
  recv : Bool
  frame : Bool
def msv (m : MsgI) : List Value := [.slice m.A m.b.length m.c, .bool m.recv, .bool m.frame]
theorem msv_one (m : MsgI) : ∀ v ∈ msv m, v.oneCell' = true := by intro v hv; simp [msv] at hv; rcases hv with rfl | rfl | rfl <;> rfl
theorem s1Byts : (Tryd.prog.info? 40).map (·.size) = some 1 := by kernel_rfl
theorem sMs : SInfo 49 3 := ⟨by kernel_rfl, _, Tryd.underlying49, rfl⟩
theorem zMs : ((Tryd.prog.info? 49).bind (·.zero)) = some (.agg (msv ⟨none, 0, [], false, false⟩).toArray) := by kernel_rfl
structure MsgI.Ok (m : MsgI) (w : World) (B : Nat) : Prop where
  rb : RB w B m.A m.b
  cap : m.b.length ≤ m.c
  len : m.b.length ≤ 140737488351232
structure RM (w : World) (B : Nat) (A : Option Addr) (ms : List MsgI) : Prop where
  rows : ms ≠ [] → ∃ g k, A = some ⟨g, k, none⟩ ∧ g < B ∧ g < w.heap.size ∧ ∀ i (h : i < ms.length), w.rangeAt g (k + i * 3) (msv ms[i])
  ok : ∀ m ∈ ms, m.Ok w B
/-- what is known of the channel and the numbers -/
structure GLg (g : Gd) (C : Ch) (cap : Cp) (ins : List (List UInt8)) (out pa fr i : Nat) : Prop where
  ok : C.ok
  kind : C.kind = 1 ∨ C.kind = 2
  size : C.size = 64
  capok : cap.Ok
  rate : cap.rate = g.rate
  burst : cap.burst = g.burst
  ole : out ≤ ins.length
  eq : C.q.map Msg.b = ins.drop out
  good : ∀ l ∈ ins, Good g l ∧ l.length ≤ 60
  pass : (pa : Int) + cap.left ≤ g.burst + g.rate * (fr : Int)
  pai : pa ≤ i
  fri : fr ≤ i
  lei : ins.length ≤ i
section
variable {g : Gd} {C : Ch} {cap : Cp} {ins : List (List UInt8)} {out pa fr i : Nat}
theorem GLg.wait (h : GLg g C cap ins out pa fr i) : C.q.length = ins.length - out := by
  have := congrArg List.length h.eq
  rwa [List.length_map, List.length_drop] at this
theorem GLg.w16 (h : GLg g C cap ins out pa fr i) : C.q.length ≤ 16 := Nat.le_trans h.ok.len h.ok.most
theorem GLg.next (h : GLg g C cap ins out pa fr i) : GLg g C cap ins out pa fr (i + 1) := ⟨h.ok, h.kind, h.size, h.capok, h.rate, h.burst, h.ole, h.eq, h.good, h.pass, by have := h.pai; omega, by have := h.fri; omega, by have := h.lei; omega⟩
theorem GLg.frame (h : GLg g C cap ins out pa fr i) : GLg g C cap.framed ins out pa (fr + 1) (i + 1) := by
  obtain ⟨r0, r64, br, b64, l0, lb⟩ := h.capok
  refine ⟨h.ok, h.kind, h.size, ⟨r0, r64, br, b64, ?_, ?_⟩, h.rate, h.burst, h.ole, h.eq, h.good, ?_, by have := h.pai; omega, by have := h.fri; omega, by have := h.lei; omega⟩
  · show 0 ≤ (if cap.left + cap.rate ≤ cap.burst then cap.left + cap.rate else cap.burst)
    split <;> omega
  · show (if cap.left + cap.rate ≤ cap.burst then cap.left + cap.rate else cap.burst) ≤ cap.burst
    split <;> omega
  · have h1 := h.pass
    have h2 : cap.framed.left ≤ cap.left + cap.rate := by
      show (if cap.left + cap.rate ≤ cap.burst then cap.left + cap.rate else cap.burst) ≤ _
      split <;> omega
    have h3 := h.rate
    have h4 : g.rate * ((fr + 1 : Nat) : Int) = g.rate * (fr : Int) + g.rate := by rw [Int.natCast_add, Int.mul_add]; simp
    omega
theorem GLg.took (h : GLg g C cap ins out pa fr i) (hl : 1 ≤ cap.left) : GLg g C cap.took ins out (pa + 1) fr (i + 1) := by
  obtain ⟨r0, r64, br, b64, l0, lb⟩ := h.capok
  refine ⟨h.ok, h.kind, h.size, ⟨r0, r64, br, b64, ?_, ?_⟩, h.rate, h.burst, h.ole, h.eq, h.good, ?_, by have := h.pai; omega, by have := h.fri; omega, by have := h.lei; omega⟩
  · show 0 ≤ cap.left - 1; omega
  · show cap.left - 1 ≤ cap.burst; omega
  · have h1 := h.pass
    have h2 : cap.took.left = cap.left - 1 := rfl
    omega
theorem GLg.lost (h : GLg g C cap ins out pa fr i) (n : Nat) (hn : n ≤ 18446744073709551615) : GLg g { C with lost := n } cap ins out pa fr i :=
  ⟨⟨h.ok.kind, h.ok.most1, h.ok.most, h.ok.one, h.ok.size, hn, h.ok.len, h.ok.fit⟩, h.kind, h.size, h.capok, h.rate, h.burst, h.ole, h.eq, h.good, h.pass, h.pai, h.fri, h.lei⟩
theorem GLg.sent (h : GLg g C cap ins out pa fr i) (l : List UInt8) (now : Nat) (hg : Good g l) (hl : l.length ≤ 60) (hok : ({ C with q := C.q ++ [⟨l, now⟩] } : Ch).ok) (hi : ins.length < i) : GLg g { C with q := C.q ++ [⟨l, now⟩] } cap (ins ++ [l]) out pa fr i := by
  refine ⟨hok, h.kind, h.size, h.capok, h.rate, h.burst, by rw [List.length_append]; have := h.ole; omega, ?_, fun x hx => ?_, h.pass, h.pai, h.fri, by rw [List.length_append]; simp; omega⟩
  · show (C.q ++ [(⟨l, now⟩ : Msg)]).map Msg.b = _
    rw [List.map_append, h.eq, List.drop_append_of_le_length h.ole]
    rfl
  · rcases List.mem_append.1 hx with hx | hx
    · exact h.good x hx
    · rw [List.mem_singleton] at hx
      subst hx
      exact ⟨hg, hl⟩
theorem GLg.recv (h : GLg g C cap ins out pa fr i) {m : Msg} {r : List Msg} (hq : C.q = m :: r) (hok : ({ C with q := r } : Ch).ok) : (∃ hlt : out < ins.length, ins[out] = m.b) ∧ GLg g { C with q := r } cap ins (out + 1) pa fr (i + 1) := by
  have e := h.eq
  rw [hq, List.map_cons] at e
  have hlt : out < ins.length := by
    apply Classical.byContradiction
    intro hn
    rw [List.drop_of_length_le (by omega)] at e
    cases e
  rw [List.drop_eq_getElem_cons hlt] at e
  injection e with e1 e2
  exact ⟨⟨hlt, e1.symm⟩, hok, h.kind, h.size, h.capok, h.rate, h.burst, hlt, e2, h.good, h.pass, by have := h.pai; omega, by have := h.fri; omega, by have := h.lei; omega⟩
/-- the two last questions of a round -/
theorem GLg.sums (h : GLg g C cap ins out pa fr i) (hi : i ≤ 60) : IntKind.i64.wrap (g.rate * (fr : Int)) = g.rate * (fr : Int) ∧ IntKind.i64.wrap (g.burst + g.rate * (fr : Int)) = g.burst + g.rate * (fr : Int) ∧ ¬ (g.burst + g.rate * (fr : Int)) < (pa : Int) := by
  obtain ⟨r0, r64, br, b64, l0, lb⟩ := h.capok
  rw [h.rate] at r0 r64 br
  rw [h.burst] at br b64
  have h1 : 0 ≤ g.rate * (fr : Int) := Int.mul_nonneg r0 (by omega)
  have h2 : g.rate * (fr : Int) ≤ 64 * (fr : Int) := Int.mul_le_mul_of_nonneg_right r64 (by omega)
  have h3 := h.fri
  have h4 := h.pass
  refine ⟨by rw [IntKind.wrap_i64]; omega, by rw [IntKind.wrap_i64]; omega, by omega⟩
theorem GLg.waits (h : GLg g C cap ins out pa fr i) (hi : i ≤ 60) : IntKind.i64.wrap ((ins.length : Int) - (out : Int)) = (C.q.length : Int) := by
  have h1 := h.wait
  have h2 := h.ole
  have h3 := h.lei
  rw [IntKind.wrap_i64]
  omega
end
/-- where all of it lies -/
structure GPh (w wr : World) (B9 b1 cb b5 : Nat) (g : Gd) (C : Ch) (f : Nat) (cap : Cp) (A9 : Option Addr) (c9 : Nat) (ins : List (List UInt8)) : Prop where
  bel : Below w.heap.size w wr
  box : Blk wr b1 (gdv g)
  f16 : f < 16
  blk : Blk wr cb (ccells C f)
  cap : Blk wr b5 (cpv cap)
  os : OS wr B9 A9 c9 ins
  sz : B9 ≤ wr.heap.size
/-- the blocks' numbers -/
structure GNb (w : World) (B9 b1 cb b5 : Nat) : Prop where
  a1 : w.heap.size ≤ b1
  ac : w.heap.size ≤ cb
  a5 : w.heap.size ≤ b5
  d1 : b1 < B9
  dc : cb < B9
  d5 : b5 < B9
  n1c : b1 ≠ cb
  n15 : b1 ≠ b5
  nc5 : cb ≠ b5
section
variable {w wr w' : World} {B9 b1 cb b5 : Nat} {g : Gd} {C C' : Ch} {f f' : Nat} {cap cap' : Cp} {A9 A' : Option Addr} {c9 c' : Nat} {ins ins' : List (List UInt8)}
theorem GPh.below (h : GPh w wr B9 b1 cb b5 g C f cap A9 c9 ins) (hb : Below wr.heap.size wr w') : GPh w w' B9 b1 cb b5 g C f cap A9 c9 ins :=
  ⟨below_trans h.bel (hb.mono h.bel.size), h.box.below hb h.box.lt, h.f16, h.blk.below hb h.blk.lt, h.cap.below hb h.cap.lt, h.os.below hb (Nat.le_refl _), Nat.le_trans h.sz hb.size⟩
theorem GPh.apart (h : GPh w wr B9 b1 cb b5 g C f cap A9 c9 ins) {b : Nat} (hb : b < B9) : A9 = none ∨ A9.map (·.block) ≠ some b := by
  cases hA : A9.map (·.block) with
  | none => exact .inr (by simp)
  | some x => exact .inr fun e => by have := (h.os.lt x hA).1; injection e with e; omega
theorem GPh.chan (h : GPh w wr B9 b1 cb b5 g C f cap A9 c9 ins) (n : GNb w B9 b1 cb b5) (hf : f' < 16) (hg : wr.grownBy w' (some cb)) (hb : Blk w' cb (ccells C' f')) : GPh w w' B9 b1 cb b5 g C' f' cap A9 c9 ins :=
  ⟨below_trans h.bel (grown_below hg h.bel.size fun k e => by injection e with e; have := n.ac; omega), h.box.grown hg (fun e => by injection e with e; exact n.n1c e.symm), hf, hb, h.cap.grown hg (fun e => by injection e with e; exact n.nc5 e), h.os.kept hg (h.apart n.dc), Nat.le_trans h.sz hg.size⟩
theorem GPh.capS (h : GPh w wr B9 b1 cb b5 g C f cap A9 c9 ins) (n : GNb w B9 b1 cb b5) (hg : wr.grownBy w' (some b5)) (hb : Blk w' b5 (cpv cap')) : GPh w w' B9 b1 cb b5 g C f cap' A9 c9 ins :=
  ⟨below_trans h.bel (grown_below hg h.bel.size fun k e => by injection e with e; have := n.a5; omega), h.box.grown hg (fun e => by injection e with e; exact n.n15 e.symm), h.f16, h.blk.grown hg (fun e => by injection e with e; exact n.nc5 e.symm), hb, h.os.kept hg (h.apart n.d5), Nat.le_trans h.sz hg.size⟩
theorem GPh.other (h : GPh w wr B9 b1 cb b5 g C f cap A9 c9 ins) (n : GNb w B9 b1 cb b5) {b : Nat} (hB : B9 ≤ b) (hg : wr.grownBy w' (some b)) (hA : A9 = none ∨ A9.map (·.block) ≠ some b) : GPh w w' B9 b1 cb b5 g C f cap A9 c9 ins :=
  ⟨below_trans h.bel (grown_below hg h.bel.size fun k e => by injection e with e; have := n.a1; have := n.d1; omega), h.box.grown hg (fun e => by injection e with e; have := n.d1; omega), h.f16, h.blk.grown hg (fun e => by injection e with e; have := n.dc; omega), h.cap.grown hg (fun e => by injection e with e; have := n.d5; omega), h.os.kept hg hA, Nat.le_trans h.sz hg.size⟩
theorem GPh.app (h : GPh w wr B9 b1 cb b5 g C f cap A9 c9 ins) (n : GNb w B9 b1 cb b5) (hg : wr.grownBy w' (A9.map (·.block))) (hb : OS w' B9 A' c' ins') : GPh w w' B9 b1 cb b5 g C f cap A' c' ins' := by
  have hk : ∀ k, A9.map (·.block) = some k → B9 ≤ k := fun k e => (h.os.lt k e).1
  exact ⟨below_trans h.bel (grown_below hg h.bel.size fun k e => by have := hk k e; have := n.a1; have := n.d1; omega), h.box.grown hg (fun e => by have := hk _ e; have := n.d1; omega), h.f16, h.blk.grown hg (fun e => by have := hk _ e; have := n.dc; omega), h.cap.grown hg (fun e => by have := hk _ e; have := n.d5; omega), hb, Nat.le_trans h.sz hg.size⟩
end
theorem send_cases (C : Ch) (hk : C.kind = 1 ∨ C.kind = 2) (l : List UInt8) (now : Nat) (hl : l.length ≤ C.size) :
    C.send l now = (C, 5) ∨ (∃ n, (C.lost ≤ 18446744073709551615 → n ≤ 18446744073709551615) ∧ C.send l now = ({ C with lost := n }, 0)) ∨ C.send l now = ({ C with q := C.q ++ [⟨l, now⟩] }, 0) := by
  unfold Ch.send
  rw [if_neg (by omega)]
  by_cases h2 : C.q.length = C.most
  · rw [if_pos h2]
    rcases hk with hk | hk
    · exact .inl (by rw [if_pos hk])
    · exact .inr (.inl ⟨if C.lost < 18446744073709551615 then C.lost + 1 else C.lost, fun h => by split <;> omega, by rw [if_neg (by omega), if_pos hk]⟩)
  · exact .inr (.inr (by rw [if_neg h2]))
theorem send_lit (W : World) (b : Nat) (C : Ch) (f : Nat) (x : UInt8) (z : Int) (hz : z = (x.toNat : Int)) (now : Nat) (hC : C.ok) (hf : f < 16) (h : Blk W b (ccells C f)) :
    Calls Tryd.prog 6 #[.pointer (some ⟨b, 0, none⟩), .slice (some ⟨W.heap.size, 0, none⟩) 1 1, .int .u64 now] (W.alloc (.cells #[.int .u8 z] 5 (1, 2))) fun e w' => e = .returned (.int .i64 (C.send [x] now).2) ∧ (∃ f', f' < 16 ∧ Blk w' b (ccells (C.send [x] now).1 f')) ∧ W.grownBy w' (some b) := by
  subst hz
  have hlt := h.lt
  refine (send_calls _ (W.heap.size + 1) b C f _ 1 [x] now hC hf (h.alloc _) (fun _ => ⟨W.heap.size, 0, rfl, by omega, fun j hj => ?_⟩) (by simp) (.inr (by simp; omega)) (by simp)).mono ?_
  · obtain rfl : j = 0 := by simp at hj; exact hj
    rw [cell_of_row _ W.heap.size (0 + 0) _ 5 (1, 2) (heap_alloc_new W _)]
    rfl
  · rintro e w' ⟨h1, h2, h3⟩
    exact ⟨h1, h2, (World.grownBy_alloc W _ _).trans h3⟩
/-- New: a channel, or none -/
def RetNew (w : World) (k m s : Int) (e : Ending) (w' : World) : Prop :=
  ∃ (pv : Option Addr) (en : Int), e = .returned (.tuple #[.pointer pv, .int .i64 en]) ∧ ((en = 0 ∧ pv = some ⟨w.heap.size, 0, none⟩ ∧ NewOk k m s ∧ Blk w' w.heap.size (ccells ⟨k.toNat, m.toNat, s.toNat, 0, []⟩ 0)) ∨ (en = 1 ∧ pv = none)) ∧ Below w.heap.size w w'
theorem new_calls (w : World) (k m s : Int) : Calls Tryd.prog 4 #[.int .i64 k, .int .i64 m, .int .i64 s] w (RetNew w k m s) := by
  by_cases h : NewOk k m s
  · exact (new_ok w k m s h).mono fun e w' ⟨h1, h2, h3⟩ => ⟨_, _, h1, .inl ⟨rfl, rfl, h, h2⟩, grown_below h3 (Nat.le_refl _) (fun k e => by cases e)⟩
  · exact (new_bad w k m s h).mono fun e w' ⟨h1, h2⟩ => ⟨_, _, h1, .inr ⟨rfl, rfl⟩, h2 ▸ Below.refl _ _⟩
def RetBeg (w : World) (r b : Int) (e : Ending) (w' : World) : Prop :=
  ∃ (c : Cp) (fn : Int), e = .returned (.tuple #[.agg (cpv c).toArray, .int .i64 fn]) ∧ ((fn = 0 ∧ c = ⟨r, b, b⟩ ∧ c.Ok) ∨ fn = 1) ∧ Below w.heap.size w w'
theorem beg_calls (w : World) (r b : Int) : Calls Tryd.prog 5 #[.int .i64 r, .int .i64 b] w (RetBeg w r b) := by
  refine (begin_calls w r b).mono ?_
  rintro e w' ⟨⟨rfl, h⟩ | ⟨rfl, _⟩, hb⟩
  · exact ⟨_, _, rfl, .inl ⟨rfl, rfl, h⟩, hb⟩
  · exact ⟨_, _, rfl, .inr rfl, hb⟩
end Go.Proofs.YtiebpmpjclnpeaaDoor
/- errors.As at the target *fault.Fault, by its contracts (lines of the worked text ToyasAs turned to this). -/
namespace Go.Proofs.YtiebpmpjclnpeaaDoor
open Go.RowKit Go.Extern.Stop Go.Stop Go.Extern

/-- errors.As(nil, target). -/
theorem as_nil (t : Value) (w : World) :
    Calls Tryd.prog 49 #[.nilIface, t] w fun e w' => e = .returned (.bool false) ∧ w' = w := by
  go_enter Tryd.func49, Tryd.ntmps49
  go_wp2
  go_ret
  exact ⟨rfl, rfl⟩

/-! the entries for internal/reflectlite, at this program s types -/
theorem Tryd.valueOf27 (t : Addr) (w : World) : (ReflectliteValue.unpack (.iface 119 (.pointer (some t)))).run Tryd.prog w
    = .ok (.agg #[.pointer (some ⟨1, 119, none⟩), .pointer (some ⟨w.heap.size, 0, none⟩), .int .u64 150]) (w.alloc (.cells #[.pointer (some t)] 119)) := by kernel_rfl
theorem Tryd.type27 (a : Addr) (w : World) : (ReflectliteValue.methodAny (ReflectliteValue.valueError "reflectlite.Value.Type" 0) (fun t _ _ _ => ReflectliteType.toType t) #[.agg #[.pointer (some ⟨1, 119, none⟩), .pointer (some a), .int .u64 150]]).run Tryd.prog w
    = .ok (.iface 134 (.agg #[.pointer (some ⟨1, 119, none⟩)])) w := by kernel_rfl
theorem Tryd.methodKind (h : Value) (w : World) : (Go.method 276 134 (.agg #[h]) "Kind").run Tryd.prog w = .ok (71, h) w := by kernel_rfl
theorem Tryd.kind27 (w : World) : ((ReflectliteType.abiMethod fun t => (fun a : Nat => Value.int IntKind.u8 (a : Int)) <$> Rtype.kind t) #[.pointer (some ⟨1, 119, none⟩)]).run Tryd.prog w = .ok (.int .u8 22) w := by kernel_rfl
theorem Tryd.kind25 (w : World) : ((ReflectliteType.abiMethod fun t => (fun a : Nat => Value.int IntKind.u8 (a : Int)) <$> Rtype.kind t) #[.pointer (some ⟨1, 96, none⟩)]).run Tryd.prog w = .ok (.int .u8 22) w := by kernel_rfl

/-! ### THE ENTRIES THAT READ OR WRITE MEMORY: laws with a premise on the cell (after Derived/Lib/ReflectliteSlice.lean's manner: each unfolding a lemma of its own, by rfl) -/
theorem rlm (z : Sem Value) (f : TypeId → Addr → Nat → Nat → Sem Value) (v : Value) :
    ReflectliteValue.method z f #[v] = (do match ← ReflectliteValue.parts v with | none => z | some (t, a, fl) => f t a fl (fl % 32)) := rfl
theorem Tryd.parts27 (a : Addr) (w : World) : (ReflectliteValue.parts (.agg #[.pointer (some ⟨1, 119, none⟩), .pointer (some a), .int .u64 150])).run Tryd.prog w = .ok (some (119, a, 150)) w := by kernel_rfl
/-- (Value).IsNil at the Value of a **p.E that is not nil. -/
theorem Tryd.isNil27 (a p : Addr) (W : World) (ha : W.cell? a = some (.pointer (some p))) :
    (ReflectliteValue.method (ReflectliteValue.valueError "reflectlite.Value.IsNil" 0) ReflectliteValue.isNil #[.agg #[.pointer (some ⟨1, 119, none⟩), .pointer (some a), .int .u64 150]]).run Tryd.prog W = .ok (.bool false) W := by
  rw [rlm]
  simp only [Sem.run_bind, Tryd.parts27, Result.andThen]
  simp [ReflectliteValue.isNil, loadVar, isAgg, underlying, Tryd.underlying119, ha, Result.andThen]

theorem Tryd.methodElem (h : Value) (w : World) : (Go.method 276 134 (.agg #[h]) "Elem").run Tryd.prog w = .ok (83, .agg #[h]) w := by kernel_rfl
theorem Tryd.methodImplements (h : Value) (w : World) : (Go.method 276 134 (.agg #[h]) "Implements").run Tryd.prog w = .ok (84, .agg #[h]) w := by kernel_rfl
theorem Tryd.methodAssignableTo (h : Value) (w : World) : (Go.method 276 134 (.agg #[h]) "AssignableTo").run Tryd.prog w = .ok (81, .agg #[h]) w := by kernel_rfl
theorem Tryd.elem27 (w : World) : (ReflectliteType.method ReflectliteType.elem #[.agg #[.pointer (some ⟨1, 119, none⟩)]]).run Tryd.prog w = .ok (.iface 134 (.agg #[.pointer (some ⟨1, 96, none⟩)])) w := by kernel_rfl
theorem Tryd.implements25 (w : World) : (ReflectliteType.relation "Implements" ReflectliteType.implements_ #[.agg #[.pointer (some ⟨1, 96, none⟩)], .iface 134 (.agg #[.pointer (some ⟨1, 44, none⟩)])]).run Tryd.prog w = .ok (.bool true) w := by kernel_rfl
theorem Tryd.typeOf25 (v : Value) (w : World) : (ReflectliteType.typeOf #[.iface 96 v]).run Tryd.prog w = .ok (.iface 134 (.agg #[.pointer (some ⟨1, 96, none⟩)])) w := by kernel_rfl
theorem Tryd.assignable25 (w : World) : (ReflectliteType.relation "AssignableTo" ReflectliteType.assignableTo #[.agg #[.pointer (some ⟨1, 96, none⟩)], .iface 134 (.agg #[.pointer (some ⟨1, 96, none⟩)])]).run Tryd.prog w = .ok (.bool true) w := by kernel_rfl
theorem Tryd.valueOf25 (e : Addr) (w : World) : (ReflectliteValue.unpack (.iface 96 (.pointer (some e)))).run Tryd.prog w
    = .ok (.agg #[.pointer (some ⟨1, 96, none⟩), .pointer (some ⟨w.heap.size, 0, none⟩), .int .u64 150]) (w.alloc (.cells #[.pointer (some e)] 96)) := by kernel_rfl

theorem Tryd.elemOf27 (w : World) : (Rtype.elem? 119).run Tryd.prog w = .ok (some 96) w := by kernel_rfl
theorem Tryd.mk25 (p : Addr) (w : World) : (ReflectliteValue.mk 96 p ReflectliteValue.flagAddr).run Tryd.prog w = .ok (.agg #[.pointer (some ⟨1, 96, none⟩), .pointer (some p), .int .u64 406]) w := by kernel_rfl
/-- (Value).Elem at the Value of a **p.E that is not nil: the Value of the *p.E variable that it points to, addressable. -/
theorem Tryd.elemV27 (a p : Addr) (W : World) (ha : W.cell? a = some (.pointer (some p))) :
    (ReflectliteValue.method (ReflectliteValue.valueError "reflectlite.Value.Elem" 0) ReflectliteValue.elem #[.agg #[.pointer (some ⟨1, 119, none⟩), .pointer (some a), .int .u64 150]]).run Tryd.prog W
      = .ok (.agg #[.pointer (some ⟨1, 96, none⟩), .pointer (some p), .int .u64 406]) W := by
  rw [rlm]
  simp only [Sem.run_bind, Tryd.parts27, Result.andThen]
  simp [ReflectliteValue.elem, loadVar, isAgg, underlying, Tryd.underlying119, ha, Result.andThen, Tryd.elemOf27, Tryd.mk25]
theorem rls (v x : Value) : ReflectliteValue.set #[v, x] = (do
    let (some (dst, a, fl), some (src, b, _)) := (← ReflectliteValue.parts v, ← ReflectliteValue.parts x)
      | unsupported (.noEntry "extern/(internal/reflectlite.Value).Set.zeroValue")
    if fl / ReflectliteValue.flagAddr % 2 == 0 then unsupported (.noEntry "extern/(internal/reflectlite.Value).Set.unaddressable")
    let val ← loadVar src b
    if ← Rtype.directlyAssignable dst src then storeVar dst a val
    else if ← Rtype.implements dst src then
      if (← Rtype.kind src) == 20 then
        match val with
        | .nilIface => unsupported (.noEntry "extern/reflectlite: a nil value of one interface type handed on as a value of another")
        | _ => storeVar dst a val
      else storeVar dst a (.iface src val)
    else panicString ("reflectlite.Set: value of type " ++ (← Rtype.spelt src) ++ " is not assignable to type " ++ (← Rtype.spelt dst))
    pure (.tuple #[])) := rfl
theorem Tryd.parts25a (a : Addr) (w : World) : (ReflectliteValue.parts (.agg #[.pointer (some ⟨1, 96, none⟩), .pointer (some a), .int .u64 406])).run Tryd.prog w = .ok (some (96, a, 406)) w := by kernel_rfl
theorem Tryd.parts25 (a : Addr) (w : World) : (ReflectliteValue.parts (.agg #[.pointer (some ⟨1, 96, none⟩), .pointer (some a), .int .u64 150])).run Tryd.prog w = .ok (some (96, a, 150)) w := by kernel_rfl
theorem Tryd.direct25 (w : World) : (Rtype.directlyAssignable 96 96).run Tryd.prog w = .ok true w := by kernel_rfl
theorem Tryd.size25 (w : World) : (sizeOf 96).run Tryd.prog w = .ok 1 w := by kernel_rfl
/-- (Value).Set: the *p.E variable at 'ta' gets what the Value's own variable 'b' holds. -/
theorem Tryd.set25 (ta b e : Addr) (old : Value) (W : World) (hb : W.cell? b = some (.pointer (some e))) (ht : W.cell? ta = some old) (hf : W.frozen? ta = false) :
    (ReflectliteValue.set #[.agg #[.pointer (some ⟨1, 96, none⟩), .pointer (some ta), .int .u64 406], .agg #[.pointer (some ⟨1, 96, none⟩), .pointer (some b), .int .u64 150]]).run Tryd.prog W
      = .ok (.tuple #[]) (W.setCell ta (.pointer (some e))) := by
  rw [rls]
  simp only [Sem.run_bind, Tryd.parts25a, Tryd.parts25, Result.andThen]
  simp [ReflectliteValue.flagAddr, loadVar, isAgg, underlying, Tryd.underlying96, hb, Result.andThen, Tryd.direct25, storeVar, Value.cells, storeCells, Addr.add]
  rw [run_store Tryd.prog W ta _ _ (by rfl)]
  simp [ht, hf]

set_option maxHeartbeats 4000000 in
theorem as_hit (e t : Addr) (old : Value) (w : World) (hg : w.cell? ⟨0, 0, none⟩ = some (.iface 134 (.agg #[.pointer (some ⟨1, 44, none⟩)]))) (ht0 : w.cell? t = some old) (hf0 : w.frozen? t = false) :
    Calls Tryd.prog 49 #[.iface 96 (.pointer (some e)), .iface 119 (.pointer (some t))] w fun ev w' => ev = .returned (.bool true) ∧ w' = ((((w.alloc (.cells #[.pointer (some t)] 119)).alloc (.cells #[.pointer (some ⟨1, 119, none⟩), .pointer (some ⟨w.heap.size, 0, none⟩), .int .u64 150] 123)).alloc (.cells #[.pointer (some ⟨1, 119, none⟩), .pointer (some ⟨w.heap.size, 0, none⟩), .int .u64 150] 123)).alloc (.cells #[.pointer (some e)] 96)).setCell t (.pointer (some e)) := by
  have h6 := @run_callFunc_extern Tryd.prog 50 _ (fun args => ReflectliteValue.unpack (args.getD 0 (.tuple #[]))) Tryd.func50 (by kernel_rfl) (by kernel_rfl) (by kernel_rfl) (by kernel_rfl)
  have h7 := @run_callFunc_extern Tryd.prog 51 _ (ReflectliteValue.methodAny (ReflectliteValue.valueError "reflectlite.Value.Type" 0) (fun t _ _ _ => ReflectliteType.toType t)) Tryd.func51 (by kernel_rfl) (by kernel_rfl) (by kernel_rfl) (by kernel_rfl)
  have h8 := @run_callFunc_extern Tryd.prog 52 _ (ReflectliteValue.method (ReflectliteValue.valueError "reflectlite.Value.IsNil" 0) ReflectliteValue.isNil) Tryd.func52 (by kernel_rfl) (by kernel_rfl) (by kernel_rfl) (by kernel_rfl)
  have h27 := @run_callFunc_extern Tryd.prog 71 _ (ReflectliteType.abiMethod fun t => do pure (.int .u8 (← Rtype.kind t))) Tryd.func71 (by kernel_rfl) (by kernel_rfl) (by kernel_rfl) (by kernel_rfl)
  have h37 := @run_callFunc_extern Tryd.prog 83 _ (ReflectliteType.method ReflectliteType.elem) Tryd.func83 (by kernel_rfl) (by kernel_rfl) (by kernel_rfl) (by kernel_rfl)
  have h38 := @run_callFunc_extern Tryd.prog 84 _ (ReflectliteType.relation "Implements" ReflectliteType.implements_) Tryd.func84 (by kernel_rfl) (by kernel_rfl) (by kernel_rfl) (by kernel_rfl)
  have h10 := @run_callFunc_extern Tryd.prog 54 _ ReflectliteType.typeOf Tryd.func54 (by kernel_rfl) (by kernel_rfl) (by kernel_rfl) (by kernel_rfl)
  have h35 := @run_callFunc_extern Tryd.prog 81 _ (ReflectliteType.relation "AssignableTo" ReflectliteType.assignableTo) Tryd.func81 (by kernel_rfl) (by kernel_rfl) (by kernel_rfl) (by kernel_rfl)
  have h11 := @run_callFunc_extern Tryd.prog 55 _ (ReflectliteValue.method (ReflectliteValue.valueError "reflectlite.Value.Elem" 0) ReflectliteValue.elem) Tryd.func55 (by kernel_rfl) (by kernel_rfl) (by kernel_rfl) (by kernel_rfl)
  have h12 := @run_callFunc_extern Tryd.prog 56 _ ReflectliteValue.set Tryd.func56 (by kernel_rfl) (by kernel_rfl) (by kernel_rfl) (by kernel_rfl)
  have tO := Tryd.typeOf25
  have mA := Tryd.methodAssignableTo
  have a25 := Tryd.assignable25
  have v25 := Tryd.valueOf25
  have f6 := Tryd.valueOf27
  have f7 := Tryd.type27
  have mK := Tryd.methodKind
  have mE := Tryd.methodElem
  have mI := Tryd.methodImplements
  have k27 := Tryd.kind27
  have k25 := Tryd.kind25
  have e27 := Tryd.elem27
  have i25 := Tryd.implements25
  have n8 := Tryd.isNil27 ⟨w.heap.size, 0, none⟩ t ((w.alloc (.cells #[.pointer (some t)] 119)).alloc (.cells #[.pointer (some ⟨1, 119, none⟩), .pointer (some ⟨w.heap.size, 0, none⟩), .int .u64 150] 123)) (by simp)
  have hlt : 0 < w.heap.size := by
    rcases Nat.eq_zero_or_pos w.heap.size with h0 | h
    · simp [World.cell?, h0] at hg
    · exact h
  have hg2 : ((w.alloc (.cells #[.pointer (some t)] 119)).alloc (.cells #[.pointer (some ⟨1, 119, none⟩), .pointer (some ⟨w.heap.size, 0, none⟩), .int .u64 150] 123)).cell? ⟨0, 0, none⟩ = some (.iface 134 (.agg #[.pointer (some ⟨1, 44, none⟩)])) := by
    rw [World.cell?_alloc_lt _ _ ⟨0, 0, none⟩ (by simp), World.cell?_alloc_lt _ _ ⟨0, 0, none⟩ hlt]; exact hg
  have htl : t.block < w.heap.size := by
    rcases Nat.lt_or_ge t.block w.heap.size with h | h
    · exact h
    · simp [World.cell?, Array.getElem?_eq_none h] at ht0
  have el := Tryd.elemV27 ⟨w.heap.size, 0, none⟩ t (((w.alloc (.cells #[.pointer (some t)] 119)).alloc (.cells #[.pointer (some ⟨1, 119, none⟩), .pointer (some ⟨w.heap.size, 0, none⟩), .int .u64 150] 123)).alloc (.cells #[.pointer (some ⟨1, 119, none⟩), .pointer (some ⟨w.heap.size, 0, none⟩), .int .u64 150] 123)) (by rw [World.cell?_alloc_lt _ _ ⟨w.heap.size, 0, none⟩ (by simp; omega)]; simp)
  have st := Tryd.set25 t ⟨w.heap.size + 1 + 1 + 1, 0, none⟩ e old ((((w.alloc (.cells #[.pointer (some t)] 119)).alloc (.cells #[.pointer (some ⟨1, 119, none⟩), .pointer (some ⟨w.heap.size, 0, none⟩), .int .u64 150] 123)).alloc (.cells #[.pointer (some ⟨1, 119, none⟩), .pointer (some ⟨w.heap.size, 0, none⟩), .int .u64 150] 123)).alloc (.cells #[.pointer (some e)] 96))
    (by rw [World.cell?_alloc_at _ _ _ _ (by simp)]; rfl)
    (by rw [World.cell?_alloc_lt _ _ t (by simp; omega), World.cell?_alloc_lt _ _ t (by simp; omega), World.cell?_alloc_lt _ _ t (by simp; omega), World.cell?_alloc_lt _ _ t htl]; exact ht0)
    (by rw [World.frozen?_alloc_old _ _ t (by simp; omega), World.frozen?_alloc_old _ _ t (by simp; omega), World.frozen?_alloc_old _ _ t (by simp; omega), World.frozen?_alloc_old _ _ t (Nat.ne_of_lt htl)]; exact hf0)
  go_enter Tryd.func49, Tryd.ntmps49
  go_wp2
  refine wp_loop_rounds 1 ?_
  rw [rounds_succ]
  go_wp2
  go_ret
  exact ⟨rfl, rfl⟩
end Go.Proofs.YtiebpmpjclnpeaaDoor
/- What every law's row asks behind the walk: it returned true, and nothing that was there when the call began has turned: so the arguments read as before. Over whatever program. -/
namespace Nac
open Go Go.RowKit Go.WideShapes Go.ChangeShapes
section
variable {H : Type} {enc : TypeId × Value → H} {P : Program}
theorem trodAll_stays {W W' : World} {base : Nat} {sp' : Nat → Bool} (hl : laidOutB P = true) : ∀ {ts : List TypeId} {vs : List Value} {ds : List (DataW H)} {ps : List MemPlace}, (∀ t ∈ ts, P.readableRec t = true ∧ t < P.types.size) →
    DataW.TrodAll enc P W base (fun _ => true) true ts vs ds ps → (∀ p ∈ ps, W.sameAt W' p) → (∀ p ∈ ps, sp' p.block = true) → DataW.TrodAll enc P W' base sp' true ts vs ds ps := by
  intro ts
  induction ts with
  | nil =>
    intro vs ds ps _ h _ _
    obtain ⟨rfl, rfl, rfl⟩ := trodAll_nil h
    exact trodAll_mk0
  | cons t ts ih =>
    intro vs ds ps ht h hs hp
    obtain ⟨v, vs', d, ds', p, q, rfl, rfl, rfl, h0, r0⟩ := trodAll_cons h
    obtain ⟨h1, h2⟩ := ht t (by simp)
    exact trodAll_cons_mk (WideElems.Trod_stays hl h1 h2 h0 (fun x hx => hs x (by simp [hx])) (fun x hx => hp x (by simp [hx])))
      (ih (fun t' ht' => ht t' (by simp [ht'])) r0 (fun x hx => hs x (by simp [hx])) (fun x hx => hp x (by simp [hx])))
/-- THE LAW's POST: the bool 'true', the arguments unturned. -/
theorem law_post {f : Func} {s : ChangeSpec} {apart fresh handsOn again : Bool} {W W' : World} {args : Array Value} {ds gs : List (DataW H)} {before : List MemPlace} {tb : TypeId}
    (hl : laidOutB P = true) (hts : ∀ t ∈ f.params.toList, P.readableRec t = true ∧ t < P.types.size)
    (hW : DataW.Whole enc P f.params.toList s.vars apart W args.toList ds gs before) (hv0 : s.vars = []) (hb : Below W.heap.size W W')
    (hr : f.resultTypes = #[tb]) (htb : P.underlying tb = some .bool)
    (hspec : (s.fn H ds).results = [.lit (.bool true)] ∧ (s.fn H ds).args = ds ∧ (s.fn H ds).vars = []) :
    s.post enc P f apart fresh handsOn again W args (.bool true) W' := by
  have hlt : ∀ p ∈ before, p.block < W.heap.size := fun p hp => hW.lt p hp
  have hW0 := hW
  obtain ⟨p, q, hA, hV, hps, hz, hn⟩ := hW
  rw [hv0] at hV
  obtain ⟨rfl, rfl⟩ := trodVars_none hV
  rw [List.append_nil] at hps
  subst hps
  have hsame : ∀ x ∈ before, W.sameAt W' x := fun x hx => hb.same (hlt x hx)
  have hargs : ∀ sp : Nat → Bool, (∀ x ∈ before, sp x.block = true) → DataW.TrodAll enc P W' 0 sp true f.params.toList args.toList (s.fn H (ds ++ [])).args before := by
    intro sp hsp
    rw [List.append_nil, hspec.2.1]
    exact trodAll_stays hl hts hA hsame hsp
  have hold : ∀ x ∈ before, (fun b => decide (b < W.heap.size)) x.block = true := fun x hx => by simpa using hlt x hx
  have hres : ∀ (b : Nat) (sp : Nat → Bool) (hd : Bool), DataW.TrodAll enc P W' b sp hd f.resultTypes.toList ((Value.bool true).resultList f.resultTypes.size) (s.fn H (ds ++ [])).results [] := by
    intro b sp hd
    rw [List.append_nil, hspec.1, hr]
    exact trodAll_cons_mk (shut_bool htb true) trodAll_mk0
  refine ⟨ds, [], before, [], before, [], hW0, hres _ _ _, hargs _ hold, ?_, World.keptBut_mono (fun x hx => ⟨hx, Or.inr (Or.inl hx)⟩) (hb.frame (· ∈ before)), fun _ => ?_⟩
  · rw [List.append_nil, hspec.2.2, hv0]; rfl
  · refine ⟨ok_one (P := P) hr rfl (okWide_bool_mk htb true), _, [], before, ⟨before, [], trodAll_append (hargs (fun _ => true) (fun _ _ => rfl)) (hres 0 (fun _ => true) true), ?_, by simp, ?_, hn⟩, fun x hx _ => hx⟩
    · rw [hv0]; rfl
    · intro b off hp
      rw [hb.frozen (p := ⟨b, off, none⟩) (hlt _ hp)]
      exact hz b off hp
end
end Nac
/- The handle of the type 'error' in its variable. -/
namespace Go.Proofs.YtiebpmpjclnpeaaDoor
open Go.RowKit
/-- the handle of the type 'error' lies in its variable -/
def Hdl (w : World) : Prop := w.cell? ⟨0, 0, none⟩ = some (.iface 134 (.agg #[.pointer (some ⟨1, 44, none⟩)]))
theorem Hdl.lt {w : World} (h : Hdl w) : 0 < w.heap.size := by
  rcases Nat.eq_zero_or_pos w.heap.size with h0 | h'
  · simp [Hdl, World.cell?, h0] at h
  · exact h'
theorem Hdl.below {w w' : World} {B : Nat} (h : Hdl w) (hb : Below B w w') (hB : 0 < B) : Hdl w' := (hb.cell (p := ⟨0, 0, none⟩) hB).trans h
end Go.Proofs.YtiebpmpjclnpeaaDoor
/- The handle of the type 'error', listed and tied: what the row's condition gives; a world for the witness. -/
namespace Go.Proofs.YtiebpmpjclnpeaaDoor
open Go.ChangeShapes Go.WideShapes Go.ChangeAt Go.RowKit Nac
theorem own : ownKnob Tryd.prog.godebug = none := by kernel_rfl
theorem laidOut_ok : laidOutB Tryd.prog = true := by kernel_rfl
theorem hEt : Tryd.prog.globalNamed "errors.errorType" = some 0 := by kernel_rfl
theorem hRt : (Tryd.prog.cutTypes.find? (·.1 == "internal/reflectlite.rtype")).map (·.2) = some 134 := by kernel_rfl
theorem hOneRow : ((List.range Tryd.prog.types.size).filter fun t => Tryd.prog.rowNamed t [101, 114, 114, 111, 114]) = [44] := by kernel_rfl
theorem hdl_of_laid {W : World} (h : laidMetH Tryd.prog [("errors.errorType", Rows.laid_errors_errorType)] W) : Hdl W := by
  have h' : laidMet Tryd.prog [] W ∧ handlesMet Tryd.prog [("errors.errorType", Rows.laid_errors_errorType)] W := h
  obtain ⟨name, u, ty, e1, e2, e3, e4, e5⟩ := h'.2 _ (List.mem_singleton.2 rfl)
  have en : name = [101, 114, 114, 111, 114] := (Option.some.inj e1).symm
  subst en
  obtain rfl := Option.some.inj (hRt.symm.trans e2)
  have hm : ty ∈ (List.range Tryd.prog.types.size).filter fun t => Tryd.prog.rowNamed t [101, 114, 114, 111, 114] := List.mem_filter.2 ⟨List.mem_range.2 e3, e4⟩
  rw [hOneRow] at hm
  obtain rfl := List.mem_singleton.1 hm
  have hh : typeHandle Tryd.prog 44 = .pointer (some ⟨1, 44, none⟩) := by kernel_rfl
  rw [hh] at e5
  unfold Hdl
  simpa using World.var?_cell hEt e5 0
/-- A WORLD FOR THE WITNESS: the settled one, the variable's cell laid. -/
noncomputable def laidWorld (os : Os) : World :=
  { World.holding Tryd.prog os ⟨#[], #[], []⟩ with heap := (World.holding Tryd.prog os ⟨#[], #[], []⟩).heap.modify 0 fun
      | .cells _ t frozen => .cells #[.iface 134 (.agg #[.pointer (some ⟨1, 44, none⟩)])] t frozen
      | o => o }
end Go.Proofs.YtiebpmpjclnpeaaDoor
/- No list in what came in is longer than memory reaches: kept by what lies inside. Over whatever program. -/
namespace Nac
open Go Go.RowKit
section
variable {H : Type} {P : Program}
def Sm (P : Program) (t : TypeId) (d : DataW H) : Prop := ∀ n ∈ d.weights P t, n ≤ reachBytes
theorem Sm.of_each {ts : List TypeId} {ds : List (DataW H)} (h : (DataW.weightsEach P ts ds).all (· ≤ reachBytes) = true) {j : Nat} {t : TypeId} {d : DataW H} (ht : ts[j]? = some t) (hd : ds[j]? = some d) : Sm P t d := fun n hn => by
  have := List.all_eq_true.1 h n (DataW.weights_mem_each ht hd n hn)
  simpa using this
theorem mem_weightsAll {e : TypeId} : ∀ {ds : List (DataW H)} {d : DataW H}, d ∈ ds → ∀ n ∈ d.weights P e, n ∈ DataW.weightsAll P e ds
  | d0 :: ds, d, hd, n, hn => by
    simp only [DataW.weightsAll, List.mem_append]
    rcases List.mem_cons.1 hd with rfl | hd
    · exact Or.inl hn
    · exact Or.inr (mem_weightsAll hd n hn)
theorem Sm.len {t e : TypeId} {el sp : List (DataW H)} (h : Sm P t (.slice el sp)) (hu : P.underlying t = some (.slice e)) : (el.length + sp.length) * P.bytesOf e ≤ reachBytes :=
  h _ (by simp [DataW.weights, hu])
theorem Sm.elem {t e : TypeId} {el sp : List (DataW H)} (h : Sm P t (.slice el sp)) (hu : P.underlying t = some (.slice e)) {d : DataW H} (hd : d ∈ el) : Sm P e d := fun n hn =>
  h n (by simp only [DataW.weights, hu, List.mem_cons, List.mem_append]; exact Or.inr (Or.inl (mem_weightsAll hd n hn)))
theorem Sm.part {t : TypeId} {fs : Array Field} {ps : List (DataW H)} (h : Sm P t (.agg ps)) (hu : P.underlying t = some (.struct fs)) {j : Nat} {f : Field} {d : DataW H} (hf : fs[j]? = some f) (hd : ps[j]? = some d) : Sm P f.type d := fun n hn =>
  h n (by
    simp only [DataW.weights, hu]
    exact DataW.weights_mem_each (by rw [List.getElem?_map, Array.getElem?_toList, hf]; rfl) hd n hn)
end
end Nac
/- A guard that came in. -/
namespace Go.Proofs.YtiebpmpjclnpeaaDoor
open Go.RowKit Go.WideShapes Go.ChangeShapes Go.Deep Nac Nac.Gram
theorem Tryd.cellsByteG : Tryd.prog.cellsOf 5 = 1 := by kernel_rfl
theorem Tryd.bytesByteG : Tryd.prog.bytesOf 5 = 1 := by kernel_rfl
section
variable {H : Type} {enc : TypeId × Value → H}
theorem spot_none {W : World} {a : Addr} {v : Value} (h : W.cell? a = some v) : a.spot = none := by
  cases hs : a.spot with
  | none => rfl
  | some x =>
    unfold World.cell? at h
    split at h
    · simp [hs] at h
    · cases h
theorem add_zero' (a : Addr) : a.add 0 = a := by simp [Addr.add]
/-- bytes, by their reading -/
theorem trod_bytes {W : World} {fuel : Nat} {v : Value} {y : DataW H × List MemPlace} (h : DataW.trod enc Tryd.prog W 0 (fun _ => true) true fuel 40 [v] = some y) (hs : Sm Tryd.prog 40 y.1) :
    ∃ A c l, v = .slice A l.length c ∧ l.length ≤ c ∧ RB W W.heap.size A l ∧ l.length ≤ 140737488351232 := by
  rcases open_ints Tryd.underlying40 Tryd.underlying5 Tryd.cellsByteG h with ⟨hcs, hx⟩ | ⟨a, len, cap, zs, hcs, _, hl, hm, hz, hx, hcell, hwz⟩
  · simp at hcs
    subst hcs
    exact ⟨none, 0, [], rfl, Nat.le_refl _, RB.nil _ _ _, by simp⟩
  · simp at hcs
    subst hcs
    simp only [if_true] at hz
    subst hx
    have hs := hs.len Tryd.underlying40
    rw [Tryd.bytesByteG] at hs
    simp only [lits, List.length_map, List.length_take, List.length_drop, reachBytes] at hs
    have hlen : ((zs.take len).map fun z => UInt8.ofNat z.toNat).length = len := by simp; omega
    refine ⟨some a, cap, (zs.take len).map fun z => UInt8.ofNat z.toNat, by rw [hlen], by omega, fun hne => ?_, by omega⟩
    have hpos : 0 < len := by
      rcases Nat.eq_zero_or_pos len with h | h
      · subst h; simp at hne
      · exact h
    have h0 := hcell 0 (by omega)
    rw [add_zero'] at h0
    have hblk : a.block < W.heap.size := block_lt_of_cell h0
    have hspot := spot_none h0
    obtain ⟨b, o, s⟩ := a
    simp only at hspot
    subst hspot
    refine ⟨b, o, rfl, hblk, fun j hj => ?_⟩
    have hc := hcell j (by omega)
    have e : (⟨b, o, none⟩ : Addr).add j = ⟨b, o + j, none⟩ := by unfold Addr.add; split <;> simp_all
    rw [e] at hc
    rw [hc]
    have hjz : j < zs.length := by omega
    have hw := hwz zs[j] (List.getElem_mem hjz)
    have hb : 0 ≤ zs[j] ∧ zs[j] ≤ 255 := by simpa [Lit.wf, IntKind.min, IntKind.max, IntKind.signed, IntKind.bits] using hw
    simp only [List.getElem_map, List.getElem_take, List.getD, List.getElem?_eq_getElem hjz, Option.getD_some, UInt8.toNat_ofNat']
    congr 2
    omega
/-- a row of elements, by its reading -/
theorem trod_rowsS {S E : TypeId} {k bs : Nat} (hu : Tryd.prog.underlying S = some (.slice E)) (hk : Tryd.prog.cellsOf E = k) (hkp : 0 < k) (hbs : Tryd.prog.bytesOf E = bs) (hbp : 0 < bs) {X : Type} [Inhabited X] (cells : X → List Value) (fits : X → Prop) (hcl : ∀ x, (cells x).length = k)
    {W : World} (helem : ∀ {fuel : Nat} {cs : List Value} {y : DataW H × List MemPlace}, DataW.trod enc Tryd.prog W 0 (fun _ => true) true fuel E cs = some y → Sm Tryd.prog E y.1 → ∃ x, cs = cells x ∧ fits x)
    {fuel : Nat} {v : Value} {y : DataW H × List MemPlace} (h : DataW.trod enc Tryd.prog W 0 (fun _ => true) true fuel S [v] = some y) (hs : Sm Tryd.prog S y.1) :
    ∃ (A : Option Addr) (c : Nat) (xs : List X), v = .slice A xs.length c ∧ (xs.length ≤ c ∧ c ≤ maxLen) ∧ (xs ≠ [] → ∃ g o, A = some ⟨g, o, none⟩ ∧ g < W.heap.size ∧ ∀ i (h : i < xs.length), W.rangeAt g (o + i * k) (cells xs[i])) ∧ xs.length ≤ 140737488351232 ∧ ∀ x ∈ xs, fits x := by
  rcases open_slice hu h with ⟨hcs, hx⟩ | ⟨a, len, cap, m, n, D, Pl, hcs, _, hl, hm, hmm, hx, hi⟩
  · simp at hcs
    subst hcs
    exact ⟨none, 0, [], rfl, ⟨Nat.le_refl _, Nat.zero_le _⟩, fun h => absurd rfl h, by simp, by simp⟩
  · simp at hcs
    subst hcs
    simp only [if_true] at hmm
    subst hmm
    subst hx
    have hsl := hs.len hu
    rw [hbs] at hsl
    simp only [List.length_map, List.length_range, reachBytes] at hsl
    have hlb : len ≤ len * bs := Nat.le_mul_of_pos_right _ hbp
    have hlb2 : len * bs ≤ (len + (m - len)) * bs := Nat.mul_le_mul_right _ (by omega)
    have hex : ∀ i, i < len → ∃ x : X, (∀ f v, (cells x)[f]? = some v → W.cell? ((a.add (i * k)).add f) = some v) ∧ fits x := by
      intro i hil
      obtain ⟨cs', h1, h2⟩ := hi i (by omega)
      rw [hk] at h1
      obtain ⟨_, hcl', hat⟩ := World.cells?_some h1
      obtain ⟨x, rfl, hfit⟩ := helem h2 (hs.elem hu (by simp only [List.mem_map, List.mem_range]; exact ⟨i, hil, rfl⟩))
      refine ⟨x, fun f v hv => ?_, hfit⟩
      have hf : f < k := by rw [← hcl x]; exact (List.getElem?_eq_some_iff.1 hv).1
      have h3 := hat f hf
      exact h3.trans hv
    obtain ⟨Y, hY⟩ := choose_lt hex
    have hlen : ((List.range len).map Y).length = len := by simp
    refine ⟨some a, m, (List.range len).map Y, by rw [hlen], ⟨by omega, hm⟩, fun hne => ?_, by omega, fun x hx => ?_⟩
    · have hpos : 0 < len := by
        rcases Nat.eq_zero_or_pos len with h | h
        · subst h; simp at hne
        · exact h
      have h0 := (hY 0 hpos).1 0 _ (List.getElem?_eq_getElem (by rw [hcl]; exact hkp))
      rw [Nat.zero_mul, add_zero', add_zero'] at h0
      have hblk : a.block < W.heap.size := block_lt_of_cell h0
      have hspot := spot_none h0
      obtain ⟨b, o, s⟩ := a
      simp only at hspot
      subst hspot
      refine ⟨b, o, rfl, hblk, fun j hj f v hv => ?_⟩
      have hj' : j < len := by omega
      have e : ((List.range len).map Y)[j] = Y j := by simp
      rw [e] at hv
      have h1 := (hY j hj').1 f v hv
      rw [Addr.add_mid, Addr.add_mid] at h1
      exact h1
    · obtain ⟨i, hi, rfl⟩ := List.mem_map.1 hx
      exact (hY i (by simpa using hi)).2
theorem u8_nat {z : Int} (hw : (Lit.int .u8 z).wf = true) : 0 ≤ z ∧ z ≤ 255 := by simpa [Lit.wf, IntKind.min, IntKind.max, IntKind.signed, IntKind.bits] using hw
theorem u64_nat {z : Int} (hw : (Lit.int .u64 z).wf = true) : 0 ≤ z ∧ z ≤ 18446744073709551615 := by simpa [Lit.wf, IntKind.min, IntKind.max, IntKind.signed, IntKind.bits] using hw
set_option maxRecDepth 100000 in
theorem elem_sign {W : World} {fuel : Nat} {cs : List Value} {y : DataW H × List MemPlace} (h : DataW.trod enc Tryd.prog W 0 (fun _ => true) true fuel 88 cs = some y) : ∃ x : Sgn, cs = sgv x ∧ (x.low < 256 ∧ x.high < 256) := by
  obtain ⟨ys, n, _, rfl, hlen, hyl, hf⟩ := DataW.trod_struct Tryd.underlying88 h
  have hc : Tryd.prog.cellsOf 88 = 3 := by kernel_rfl
  rw [hc] at hlen
  match cs, hlen with
  | [v0, v1, v2], _ =>
    match ys, hyl with
    | [y0, y1, y2], _ =>
      have k0 : DataW.trod enc Tryd.prog W 0 (fun _ => true) true n 3 [v0] = some y0 := hf 0 _ rfl
      have k1 : DataW.trod enc Tryd.prog W 0 (fun _ => true) true n 5 [v1] = some y1 := hf 1 _ rfl
      have k2 : DataW.trod enc Tryd.prog W 0 (fun _ => true) true n 5 [v2] = some y2 := hf 2 _ rfl
      obtain ⟨z0, e0, _, w0⟩ := DataW.trod_int Tryd.underlying3 k0
      obtain ⟨z1, e1, _, w1⟩ := DataW.trod_int Tryd.underlying5 k1
      obtain ⟨z2, e2, _, w2⟩ := DataW.trod_int Tryd.underlying5 k2
      have h1 := u8_nat w1
      have h2 := u8_nat w2
      simp at e0 e1 e2
      refine ⟨⟨z0, z1.toNat, z2.toNat⟩, ?_, by show z1.toNat < 256; omega, by show z2.toNat < 256; omega⟩
      rw [e0, e1, e2]
      simp [sgv, Int.toNat_of_nonneg h1.1, Int.toNat_of_nonneg h2.1]
instance : Inhabited Fld := ⟨⟨0, 0, 0, 0⟩⟩
instance : Inhabited FormI := ⟨⟨0, [], none, 0⟩⟩
instance : Inhabited MsgI := ⟨⟨none, 0, [], false, false⟩⟩
set_option maxRecDepth 100000 in
theorem elem_field {W : World} {fuel : Nat} {cs : List Value} {y : DataW H × List MemPlace} (h : DataW.trod enc Tryd.prog W 0 (fun _ => true) true fuel 79 cs = some y) : ∃ x : Fld, cs = fdv x ∧ True := by
  obtain ⟨ys, n, _, rfl, hlen, hyl, hf⟩ := DataW.trod_struct Tryd.underlying79 h
  have hc : Tryd.prog.cellsOf 79 = 4 := by kernel_rfl
  rw [hc] at hlen
  match cs, hlen with
  | [v0, v1, v2, v3], _ =>
    match ys, hyl with
    | [y0, y1, y2, y3], _ =>
      have k0 : DataW.trod enc Tryd.prog W 0 (fun _ => true) true n 3 [v0] = some y0 := hf 0 _ rfl
      have k1 : DataW.trod enc Tryd.prog W 0 (fun _ => true) true n 3 [v1] = some y1 := hf 1 _ rfl
      have k2 : DataW.trod enc Tryd.prog W 0 (fun _ => true) true n 41 [v2] = some y2 := hf 2 _ rfl
      have k3 : DataW.trod enc Tryd.prog W 0 (fun _ => true) true n 41 [v3] = some y3 := hf 3 _ rfl
      obtain ⟨z0, e0, _, w0⟩ := DataW.trod_int Tryd.underlying3 k0
      obtain ⟨z1, e1, _, w1⟩ := DataW.trod_int Tryd.underlying3 k1
      obtain ⟨z2, e2, _, w2⟩ := DataW.trod_int Tryd.underlying41 k2
      obtain ⟨z3, e3, _, w3⟩ := DataW.trod_int Tryd.underlying41 k3
      have h2 := u64_nat w2
      have h3 := u64_nat w3
      simp at e0 e1 e2 e3
      refine ⟨⟨z0, z1, z2.toNat, z3.toNat⟩, ?_, trivial⟩
      rw [e0, e1, e2, e3]
      simp [fdv, Int.toNat_of_nonneg h2.1, Int.toNat_of_nonneg h3.1]
structure FormI.In (r : FormI) (W : World) : Prop where
  rs : RS W W.heap.size r.at_ r.body
  cap : r.body.length ≤ r.cap ∧ r.cap ≤ 9223372036854775807
  by_ : ∀ x ∈ r.body, x.low < 256 ∧ x.high < 256
set_option maxRecDepth 100000 in
theorem elem_form {W : World} {fuel : Nat} {cs : List Value} {y : DataW H × List MemPlace} (h : DataW.trod enc Tryd.prog W 0 (fun _ => true) true fuel 105 cs = some y) (hs : Sm Tryd.prog 105 y.1) : ∃ r : FormI, cs = frvI r ∧ r.In W := by
  obtain ⟨ys, n, _, rfl, hlen, hyl, hf⟩ := DataW.trod_struct Tryd.underlying105 h
  have hc : Tryd.prog.cellsOf 105 = 2 := by kernel_rfl
  rw [hc] at hlen
  match cs, hlen with
  | [v0, v1], _ =>
    match ys, hyl with
    | [y0, y1], _ =>
      have k0 : DataW.trod enc Tryd.prog W 0 (fun _ => true) true n 3 [v0] = some y0 := hf 0 _ rfl
      have k1 : DataW.trod enc Tryd.prog W 0 (fun _ => true) true n 89 [v1] = some y1 := hf 1 _ rfl
      obtain ⟨z0, e0, _, w0⟩ := DataW.trod_int Tryd.underlying3 k0
      obtain ⟨A, c, xs, rfl, h1, h2, h3, h4⟩ := trod_rowsS Tryd.underlying89 (k := 3) (by kernel_rfl) (by decide) (bs := 16) (by kernel_rfl) (by decide) sgv (fun x => x.low < 256 ∧ x.high < 256) sgv_len (fun h _ => elem_sign h) k1 (hs.part Tryd.underlying105 (j := 1) rfl rfl)
      simp at e0
      refine ⟨⟨z0, xs, A, c⟩, by rw [e0]; rfl, fun hne => ?_, by have := h1.2; unfold maxLen at this; exact ⟨h1.1, this⟩, h4⟩
      obtain ⟨g, o, hA, hg, hr⟩ := h2 hne
      exact ⟨g, o, hA, hg, hg, hr⟩
set_option maxRecDepth 100000 in
theorem elem_msg {W : World} {fuel : Nat} {cs : List Value} {y : DataW H × List MemPlace} (h : DataW.trod enc Tryd.prog W 0 (fun _ => true) true fuel 49 cs = some y) (hs : Sm Tryd.prog 49 y.1) : ∃ m : MsgI, cs = msv m ∧ m.Ok W W.heap.size := by
  obtain ⟨ys, n, _, rfl, hlen, hyl, hf⟩ := DataW.trod_struct Tryd.underlying49 h
  have hc : Tryd.prog.cellsOf 49 = 3 := by kernel_rfl
  rw [hc] at hlen
  match cs, hlen with
  | [v0, v1, v2], _ =>
    match ys, hyl with
    | [y0, y1, y2], _ =>
      have k0 : DataW.trod enc Tryd.prog W 0 (fun _ => true) true n 40 [v0] = some y0 := hf 0 _ rfl
      have k1 : DataW.trod enc Tryd.prog W 0 (fun _ => true) true n 4 [v1] = some y1 := hf 1 _ rfl
      have k2 : DataW.trod enc Tryd.prog W 0 (fun _ => true) true n 4 [v2] = some y2 := hf 2 _ rfl
      obtain ⟨A, c, l, rfl, h1, h2, h3⟩ := trod_bytes k0 (hs.part Tryd.underlying49 (j := 0) rfl rfl)
      obtain ⟨r1, e1, _⟩ := DataW.trod_bool Tryd.underlying4 k1
      obtain ⟨r2, e2, _⟩ := DataW.trod_bool Tryd.underlying4 k2
      simp at e1 e2
      exact ⟨⟨A, c, l, r1, r2⟩, by rw [e1, e2]; rfl, h2, h1, h3⟩
set_option maxRecDepth 100000 in
/-- a guard, opened -/
theorem open_guard {W : World} {base : Nat} {v : Value} {d : DataW H} {p : List MemPlace} (hv : Value.okWide Tryd.prog W .any base 30 v) (h : DataW.Trod enc Tryd.prog W 0 (fun _ => true) true 30 v d p) (hs : Sm Tryd.prog 30 d) :
    ∃ (g : Gd) (ms : List MsgI), v = .agg (gdv g).toArray ∧ GdIn W W.heap.size g ∧ ROk g.R ∧ (∀ r ∈ g.R, ∀ x ∈ r.body, x.low < 256 ∧ x.high < 256) ∧ g.fs.length ≤ 140737488355328 ∧ g.nL = ms.length ∧ RM W W.heap.size g.AL ms ∧ ms.length ≤ 140737488355328 := by
  obtain ⟨cs, rfl, hsz⟩ := okWide_struct Tryd.underlying30 hv
  obtain ⟨fuel, hf⟩ := h
  obtain ⟨ys, n, _, hd, hlen, hyl, hg⟩ := DataW.trod_struct Tryd.underlying30 hf
  have hc : Tryd.prog.cellsOf 30 = 10 := by kernel_rfl
  rw [hc] at hlen
  obtain ⟨hd, _⟩ := Prod.mk.injEq .. ▸ hd
  subst hd
  obtain ⟨l⟩ := cs
  match l, hlen with
  | [v0, v1, v2, v3, v4, v5, v6, v7, v8, v9], _ =>
    match ys, hyl with
    | [y0, y1, y2, y3, y4, y5, y6], _ =>
      have k0 : DataW.trod enc Tryd.prog W 0 (fun _ => true) true n 3 [v0] = some y0 := hg 0 _ rfl
      have k1 : DataW.trod enc Tryd.prog W 0 (fun _ => true) true n 3 [v1] = some y1 := hg 1 _ rfl
      have k2 : DataW.trod enc Tryd.prog W 0 (fun _ => true) true n 24 [v2, v3, v4] = some y2 := hg 2 _ rfl
      have k3 : DataW.trod enc Tryd.prog W 0 (fun _ => true) true n 27 [v5, v6] = some y3 := hg 3 _ rfl
      have k4 : DataW.trod enc Tryd.prog W 0 (fun _ => true) true n 3 [v7] = some y4 := hg 4 _ rfl
      have k5 : DataW.trod enc Tryd.prog W 0 (fun _ => true) true n 3 [v8] = some y5 := hg 5 _ rfl
      have k6 : DataW.trod enc Tryd.prog W 0 (fun _ => true) true n 28 [v9] = some y6 := hg 6 _ rfl
      obtain ⟨z0, e0, _, _⟩ := DataW.trod_int Tryd.underlying3 k0
      obtain ⟨z1, e1, _, _⟩ := DataW.trod_int Tryd.underlying3 k1
      obtain ⟨z7, e7, _, _⟩ := DataW.trod_int Tryd.underlying3 k4
      obtain ⟨z8, e8, _, _⟩ := DataW.trod_int Tryd.underlying3 k5
      have s2 : Sm Tryd.prog 24 y2.1 := hs.part Tryd.underlying30 (j := 2) rfl rfl
      have s3 : Sm Tryd.prog 27 y3.1 := hs.part Tryd.underlying30 (j := 3) rfl rfl
      have s6 : Sm Tryd.prog 28 y6.1 := hs.part Tryd.underlying30 (j := 6) rfl rfl
      obtain ⟨yr, nr, _, hdr, _, hylr, hgr⟩ := DataW.trod_struct Tryd.underlying24 k2
      obtain ⟨yg, ng, _, hdg, _, hylg, hgg⟩ := DataW.trod_struct Tryd.underlying27 k3
      subst hdr
      subst hdg
      match yr, hylr with
      | [r0, r1, r2], _ =>
        match yg, hylg with
        | [q0, q1], _ =>
          have j0 : DataW.trod enc Tryd.prog W 0 (fun _ => true) true nr 3 [v2] = some r0 := hgr 0 _ rfl
          have j1 : DataW.trod enc Tryd.prog W 0 (fun _ => true) true nr 3 [v3] = some r1 := hgr 1 _ rfl
          have j2 : DataW.trod enc Tryd.prog W 0 (fun _ => true) true nr 22 [v4] = some r2 := hgr 2 _ rfl
          have i0 : DataW.trod enc Tryd.prog W 0 (fun _ => true) true ng 3 [v5] = some q0 := hgg 0 _ rfl
          have i1 : DataW.trod enc Tryd.prog W 0 (fun _ => true) true ng 25 [v6] = some q1 := hgg 1 _ rfl
          obtain ⟨z2, e2, _, _⟩ := DataW.trod_int Tryd.underlying3 j0
          obtain ⟨z3, e3, _, _⟩ := DataW.trod_int Tryd.underlying3 j1
          obtain ⟨z5, e5, _, _⟩ := DataW.trod_int Tryd.underlying3 i0
          obtain ⟨AF, cF, fs, rfl, hF1, hF2, hF3, _⟩ := trod_rowsS Tryd.underlying22 (k := 4) (by kernel_rfl) (by decide) (bs := 32) (by kernel_rfl) (by decide) fdv (fun _ => True) (fun _ => rfl) (fun h _ => elem_field h) j2 (s2.part Tryd.underlying24 (j := 2) rfl rfl)
          obtain ⟨AG, cG, R, rfl, hG1, hG2, hG3, hG4⟩ := trod_rowsS Tryd.underlying25 (k := 2) (by kernel_rfl) (by decide) (bs := 32) (by kernel_rfl) (by decide) frvI (fun r => r.In W) (fun _ => rfl) (fun h s => elem_form h s) i1 (s3.part Tryd.underlying27 (j := 1) rfl rfl)
          obtain ⟨AL, cL, ms, rfl, hL1, hL2, hL3, hL4⟩ := trod_rowsS Tryd.underlying28 (k := 3) (by kernel_rfl) (by decide) (bs := 32) (by kernel_rfl) (by decide) msv (fun m => m.Ok W W.heap.size) (fun _ => rfl) (fun h s => elem_msg h s) k6 s6
          simp at e0 e1 e2 e3 e5 e7 e8
          refine ⟨⟨z0, z1, z2, z3, AF, fs, cF, z5, AG, R, cG, z7, z8, AL, ms.length, cL⟩, ms, by rw [e0, e1, e2, e3, e5, e7, e8]; rfl, ⟨fun hne => ?_, ⟨fun hne => ?_, fun r hr => (hG4 r hr).rs⟩⟩, ⟨by show R.length ≤ _; omega, fun r hr => (hG4 r hr).cap⟩, fun r hr => (hG4 r hr).by_, by show fs.length ≤ _; omega, rfl, ⟨fun hne => ?_, hL4⟩, by omega⟩
          · obtain ⟨g, o, hA, hg, hr⟩ := hF2 hne
            exact ⟨g, o, hA, hg, hg, hr⟩
          · obtain ⟨g, o, hA, hg, hr⟩ := hG2 hne
            exact ⟨g, o, hA, hg, hg, hr⟩
          · obtain ⟨g, o, hA, hg, hr⟩ := hL2 hne
            exact ⟨g, o, hA, hg, hg, hr⟩
end
end Go.Proofs.YtiebpmpjclnpeaaDoor
