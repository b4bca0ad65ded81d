/- Send, where the message is taken in. -/
import Derived.Test.YtdjphdkoljfndaaPortSend
namespace Nac
open Go Go.RowKit
theorem RB.grown {w w' : World} {B : Nat} {A : Option Addr} {l : List UInt8} (h : RB w B A l) {row : Option Nat} (hg : w.grownBy w' row) (hB : B ≤ w.heap.size) (hr : ∀ k, row = some k → B ≤ k) : RB w' B A l :=
  h.below ((Below.refl B w).grown hg hB hr)
theorem RB.grownNe {w w' : World} {B b : Nat} {A : Option Addr} {l : List UInt8} (h : RB w B A l) (hg : w.grownBy w' (some b)) (hB : B ≤ w.heap.size) (hne : B ≤ b ∨ A.map (·.block) ≠ some b) : RB w' B A l := fun hl => by
  obtain ⟨c, o, rfl, hb, hc⟩ := h hl
  refine ⟨c, o, rfl, hb, fun j hj => ?_⟩
  have hcb : c ≠ b := by
    rcases hne with hne | hne
    · omega
    · intro e; subst e; exact hne rfl
  rw [← hc j hj]
  exact World.cell?_of_block (w := w) (hg.block c (by omega) (fun e => by injection e with e; exact hcb e))
end Nac
namespace Go.Proofs.Ytdjphdkoljfndaa
open Go.RowKit Nac
theorem ncells_one (n now : Int) : ∀ v ∈ ncells n now, v.oneCell' = true := by
  intro v hv
  simp only [ncells, List.mem_append, List.mem_map, List.mem_cons, List.not_mem_nil, or_false] at hv
  rcases hv with ⟨x, _, rfl⟩ | rfl | rfl <;> rfl
set_option maxHeartbeats 4000000 in
theorem send_push (w : World) (B b : Nat) (C : Ch) (f : Nat) (A : Option Addr) (c : Nat) (l : List UInt8) (now : Nat) (hC : C.ok) (hf : f < 16) (h : Blk w b (ccells C f)) (hr : RB w B A l) (hB' : B ≤ w.heap.size) (hB : B ≤ b ∨ A.map (·.block) ≠ some b) (hl : l.length ≤ C.size)
    (hway : C.q.length < C.most ∨ (C.q.length = C.most ∧ C.kind = 0)) :
    Calls Try.prog 10 #[.pointer (some ⟨b, 0, none⟩), .slice A l.length c, .int .u64 now] w (RetSend w b C l now) := by
  have hsz := hC.size
  have hmo := hC.most
  have hm1 := hC.most1
  have c2 : w.cell? ⟨b, 2, none⟩ = some (.int .i64 C.size) := h.cell rfl
  have c4 : w.cell? ⟨b, 4, none⟩ = some (.int .i64 C.q.length) := h.cell rfl
  have c1 : w.cell? ⟨b, 1, none⟩ = some (.int .i64 C.most) := h.cell rfl
  have c0 : w.cell? ⟨b, 0, none⟩ = some (.int .i64 C.kind) := h.cell rfl
  have hl64 : l.length ≤ 64 := by omega
  rcases hway with hlt | ⟨hq, hk⟩
  · have hs : C.send l now = ({ C with q := C.q ++ [⟨l, now⟩] }, 0) := by unfold Ch.send; rw [if_neg (by omega), if_neg (by omega)]
    have HS := Lib.hid hs; clear hs
    obtain ⟨n, hn⟩ : ∃ n, Hid (n = C.q.length) := ⟨_, rfl⟩
    rw [← hn.out] at c4 hlt
    have HP : Hid (C.send l now = ({ C with q := C.q ++ [⟨l, now⟩] }, 0)) := HS.out
    have K0 : Blk w.drew b (ccells C f) := h
    have G0 : w.grownBy w.drew (some b) := grown_drew (World.grownBy.refl w _)
    have hn16 : C.q.length < 16 := by have := hn.out; omega
    have hb0 := h.lt
    clear h
    go_enter Try.func10, Try.ntmps10
    go_wp2
    go_region
    all_goals
      obtain ⟨w1, hw1⟩ : ∃ w1, Hid (w1 = w.drew) := ⟨_, rfl⟩
      obtain ⟨C1, hC1e⟩ : ∃ C1, Hid (C1 = C) := ⟨_, rfl⟩
      obtain ⟨f1, hf1e⟩ : ∃ f1, Hid (f1 = f) := ⟨_, rfl⟩
      rw [← hw1.out] at K0 G0 ⊢
      have HP2 : Hid (C.send l now = ({ C1 with q := C1.q ++ [⟨l, now⟩] }, 0)) := by rw [hC1e.out]; exact HP
      clear HP
      have HP := HP2
      clear HP2
      have hf1 : f1 < 16 := by have := hf1e.out; omega
      have hC1 : C1.ok := by rw [hC1e.out]; exact hC
      have hn1 : C1.q.length < 16 := by rw [hC1e.out]; exact hn16
      rw [← hC1e.out, ← hf1e.out] at K0
      have R0 : RB w1 B A l := by rw [hw1.out]; exact hr
      have hB1 : B ≤ w1.heap.size := Nat.le_trans hB' G0.size
      have hbs : b < w1.heap.size := K0.lt
      clear hr hn16 c0 c1 c2 c4 hn hB' hb0
      go_wp2_with (first
        | ((with_reducible show wpList _ _ _ (Oper.mk _ (Op.build _ _) _ _ _ _ :: _) _ _); refine wpList_nmsg rfl _ _ rfl l.length now rfl rfl ?_)
        | ((with_reducible show wpList _ _ _ (Oper.mk _ (Op.alloc _) _ _ _ _ :: _) _ _); refine wpList_allocMsg rfl rfl ?_))
      intro w2 hb2 hg2
      have K2 := K0.grown hg2 (by simp)
      have R2 := R0.grown hg2 hB1 (by simp)
      go_wp2_with ((with_reducible show wpList _ _ _ (Oper.mk _ (Op.store 59 _ _) _ _ _ _ :: _) _ _); refine wpList_storeMsg rfl _ _ rfl w1.heap.size 0 (mcells zmsg) (ncells l.length now) rfl rfl hb2 (by simp [ncells]) (by rw [mcells_len _ (by simp [zmsg])]; decide) (ncells_one _ _) (ncells l.length now) (by rw [List.take_zero, List.nil_append, List.drop_of_length_le (by rw [mcells_len _ (by simp [zmsg])]; simp [ncells]), List.append_nil]) ?_)
      intro w3 hb3 hg3
      have K3 := K2.grown hg3 (fun e => by injection e with e; omega)
      have R3 := R2.grown hg3 (Nat.le_trans hB1 hg2.size) (fun k e => by injection e with e; omega)
      go_wp2_with (refine wpList_copyMsg rfl _ _ rfl w1.heap.size 64 rfl A l.length c l rfl rfl B R3 hl64 now hb3 ?_)
      intro w4 hb4 hg4
      have K4 := K3.grown hg4 (fun e => by injection e with e; omega)
      have G4 : w.grownBy w4 (some b) := by
        have z2 := G0.trans (grown_none hg2)
        refine ⟨hg4.os.trans (hg3.os.trans z2.os), hg4.tape.trans (hg3.tape.trans z2.tape), hg4.output.trans (hg3.output.trans z2.output), Nat.le_trans z2.size (Nat.le_trans hg3.size hg4.size), fun k hk hne => ?_⟩
        have hk1 : k < w1.heap.size := Nat.lt_of_lt_of_le hk G0.size
        have hk2 : k < w2.heap.size := Nat.lt_of_lt_of_le hk1 hg2.size
        rw [hg4.block k (Nat.lt_of_lt_of_le hk2 hg3.size) (fun e => by injection e with e; omega), hg3.block k hk2 (fun e => by injection e with e; omega)]
        exact z2.block k hk hne
      have hsz4 : b < w4.heap.size := K4.lt
      have hs14 : w1.heap.size < w4.heap.size := hb4.lt
      clear K0 K2 K3 R0 R2 R3 hb2 hb3 hg2 hg3 hg4 G0
      go_wp2_with fail
      have V0 : ∀ w', Below w4.drew.heap.size w4.drew w' → Blk w' b (ccells C1 f1) := fun w' hb => K4.below (w := w4.drew) hb hsz4
      have V1 : ∀ w', Below w4.drew.heap.size w4.drew w' → Blk w' w1.heap.size (mcells ⟨l, now⟩) := fun w' hb => Blk.below (w := w4.drew) hb4 hb hs14
      have L1 : ∀ w', Below w4.drew.heap.size w4.drew w' → (Instr.loadAt 3 (.pointer (some ⟨b, 4, none⟩))).run Try.prog w' = .ok (.int .i64 C1.q.length) w' := fun w' hb => by
        have c4' : w'.cell? ⟨b, 4, none⟩ = some (.int .i64 C1.q.length) := (V0 w' hb).cell rfl
        go_simp
      have L2 : ∀ w', Below w4.drew.heap.size w4.drew w' → (Instr.loadAt 59 (.pointer (some ⟨w1.heap.size, 0, none⟩))).run Try.prog w' = .ok (.agg (mcells ⟨l, now⟩).toArray) w' := fun w' hb =>
        run_loadAt_mid w' w1.heap.size 0 59 (mcells ⟨l, now⟩) _ ((V1 w' hb).range 0 _ ⟨[], [], by simp, rfl⟩) Try.underlying59 rfl (by rw [infoMsg, mcells_len _ hl64])
      have L3 : ∀ w', (Instr.fieldAt 62 (.pointer (some ⟨b, 0, none⟩)) 4).run Try.prog w' = .ok (.pointer (some ⟨b, 4, none⟩)) w' := fun w' => by go_simp
      have L4 : ∀ (v u : Value) w', Below w4.drew.heap.size w4.drew w' → v = .pointer (some ⟨b, 0, none⟩) → u = .int .i64 C1.q.length → Calls Try.prog 19 #[v, u] w' fun e w'' => ∃ v, e = .returned v ∧ v = .pointer (some ⟨b, 6 + 66 * ((f1 + C1.q.length) % 16), none⟩) ∧ Below w'.heap.size w' w'' := by
        rintro v u w' hb rfl rfl
        refine (at_calls w' b f1 C1.q.length hf1 (by omega) ((V0 w' hb).cell rfl)).mono ?_
        rintro e w'' ⟨rfl, rfl⟩
        exact ⟨_, rfl, rfl, (Below.refl _ _).drew⟩
      let D : Nat → VD := fun i => ([.is (.pointer (some ⟨b, 0, none⟩)), .is (.pointer (some ⟨b, 0, none⟩)), .is (.pointer (some ⟨b, 0, none⟩)), .is (.pointer (some ⟨b, 4, none⟩)), .is (.int .i64 C1.q.length), .is (.pointer (some ⟨b, 6 + 66 * ((f1 + C1.q.length) % 16), none⟩)), .is (.agg (mcells ⟨l, now⟩).toArray), .is (.pointer (some ⟨b, 6 + 66 * ((f1 + C1.q.length) % 16), none⟩)), .is undef] : List VD).getD i (.is undef)
      refine region_monoL D 8 (by kernel_rfl) (by kernel_rfl) (by kernel_rfl) (by kernel_rfl) (by kernel_rfl) (fun i hi hne => ?_) ?_
      · match i, hi, hne with
        | 0, _, _ => exact mstep_first rfl (mwant_none rfl) 0 (Or.inl rfl) (by kernel_rfl) (fun _ _ => rfl)
        | 1, _, _ => exact mstep_first rfl (mwant_none rfl) 0 (Or.inl rfl) (by kernel_rfl) (fun _ _ => rfl)
        | 2, _, _ => exact mstep_nil rfl (mwant_none rfl) 55 rfl 1 (by kernel_rfl) rfl _ rfl rfl
        | 3, _, _ => exact mstep_field rfl (mwant_none rfl) 56 _ _ rfl 2 (by kernel_rfl) rfl _ _ rfl rfl L3
        | 4, _, _ => exact mstep_load rfl (mwant_none rfl) 57 _ rfl 3 (by kernel_rfl) rfl _ _ rfl rfl L1
        | 5, _, _ => exact mstep_call2 rfl (mwant_none rfl) _ 54 58 _ rfl (enters_of Try.func19 (by kernel_rfl) rfl) 0 4 (by kernel_rfl) (by kernel_rfl) rfl rfl L4
        | 6, _, _ => exact mstep_loadT rfl (mwant_none rfl) 7 _ rfl (by kernel_rfl) _ _ rfl rfl L2
        | 7, _, _ => exact mstep_nil rfl (mwant_none rfl) 59 rfl 5 (by kernel_rfl) rfl _ rfl rfl
        | 8, _, h => exact absurd rfl h
        | n + 9, h, _ => exact absurd h (by show ¬ (n + 9 < 9); omega)
      · intro o a w5 ho hb hde hts hok hor
        obtain rfl := Option.some.inj ho
        have e60 : a.tmps.getD 60 undef = .agg (mcells ⟨l, now⟩).toArray := hok 6 60 (by decide) rfl
        have e61 : a.tmps.getD 61 undef = .pointer (some ⟨b, 6 + 66 * ((f1 + C1.q.length) % 16), none⟩) := hok 7 61 (by decide) rfl
        have e0 : a.tmps.getD 0 undef = .pointer (some ⟨b, 0, none⟩) := hor 0 (fun i _ => free_dst (by kernel_rfl) i)
        have K5 := V0 w5 hb
        have hlen5 := ccells_len C1 hC1 f1
        have hml := mcells_len ⟨l, now⟩ hl64
        refine ⟨rfl, wp_store_mid 59 _ _ rfl b (6 + 66 * ((f1 + C1.q.length) % 16)) (mcells ⟨l, now⟩).toArray e61 e60 (K5.there _ _ (by simp only [List.size_toArray]; omega)) (by rw [infoMsg]; simp [hml]) (all_oneCell_toArray (mcells_one _)) ?_⟩
        have K6 := K5.setCells (mcells ⟨l, now⟩) (6 + 66 * ((f1 + C1.q.length) % 16)) (by omega)
        rw [ccells_store C1 hC1 f1 _ (Nat.mod_lt _ (by decide)) ⟨l, now⟩ hl64, ring_push f1 C1.q hf1 hn1 ⟨l, now⟩] at K6
        have G6 : w.grownBy (w5.setCells b (6 + 66 * ((f1 + C1.q.length) % 16)) (mcells ⟨l, now⟩)) (some b) := by
          refine World.grownBy.trans ?_ (grown_setCells _ _ _ _)
          refine ⟨hb.os.trans G4.os, hb.tape.trans G4.tape, hb.output.trans G4.output, Nat.le_trans G4.size hb.size, fun k hk hne => ?_⟩
          exact (hb.block k (Nat.lt_of_lt_of_le hk G4.size)).trans (G4.block k hk hne)
        show Exit.then _ _ Exit.normal a (w5.setCells b (6 + 66 * ((f1 + C1.q.length) % 16)) (mcells ⟨l, now⟩))
        obtain ⟨w6, hw6⟩ : ∃ w6, w6 = w5.setCells b (6 + 66 * ((f1 + C1.q.length) % 16)) (mcells ⟨l, now⟩) := ⟨_, rfl⟩
        rw [← hw6] at K6 G6 ⊢
        clear hw6 K5 V0 V1 L1 L2 L4 hb hor hok e60 e61
        obtain ⟨tm, df⟩ := a
        obtain rfl : df = [] := hde
        have hlit := lit_of 69 tm hts
        obtain ⟨F, hF⟩ : ∃ F : Nat → Value, F = fun i => tm.getD i undef := ⟨_, rfl⟩
        rw [← hF] at hlit
        have e0' : F 0 = .pointer (some ⟨b, 0, none⟩) := by rw [hF]; exact e0
        clear e0 hF hts
        have hlit2 : tm = #[F 0, F 1, F 2, F 3, F 4, F 5, F 6, F 7, F 8, F 9, F 10, F 11, F 12, F 13, F 14, F 15, F 16, F 17, F 18, F 19, F 20, F 21, F 22, F 23, F 24, F 25, F 26, F 27, F 28, F 29, F 30, F 31, F 32, F 33, F 34, F 35, F 36, F 37, F 38, F 39, F 40, F 41, F 42, F 43, F 44, F 45, F 46, F 47, F 48, F 49, F 50, F 51, F 52, F 53, F 54, F 55, F 56, F 57, F 58, F 59, F 60, F 61, F 62, F 63, F 64, F 65, F 66, F 67, F 68] := hlit
        clear hlit
        subst hlit2
        rw [e0']
        have c4 : w6.cell? ⟨b, 4, none⟩ = some (.int .i64 C1.q.length) := K6.cell rfl
        have f4 := K6.free 4
        obtain ⟨n1, hn1e⟩ : ∃ n1, Hid (n1 = C1.q.length) := ⟨_, rfl⟩
        rw [← hn1e.out] at c4
        have hn1' : n1 < 16 := by have := hn1e.out; omega
        have KK := Lib.hid K6; clear K6
        have GG := Lib.hid G6; clear G6
        refine (by assumption : ∀ (a : Act) (w : World), Code.wp _ _ _ a w → _) _ _ ?_
        go_wp2
        go_ret
        unfold RetSend
        rw [HP.out]
        refine ⟨rfl, ⟨f1, hf1, ?_⟩, GG.out.trans (grown_setCell _ _ _)⟩
        have := KK.out.setCell 4 (.int .i64 ((n1 : Int) + 1))
        have e : (hd C1 f1 C1.q.length ++ (ringL f1 (C1.q ++ [⟨l, now⟩])).flatten).set 4 (.int .i64 ((n1 : Int) + 1)) = ccells { C1 with q := C1.q ++ [⟨l, now⟩] } f1 := by
          unfold ccells
          rw [hn1e.out]
          simp [hd]
        rw [e] at this
        exact this
  · have hs : C.send l now = ({ C with q := C.q.tail ++ [⟨l, now⟩] }, 0) := by unfold Ch.send; rw [if_neg (by omega), if_pos hq, if_neg (by omega), if_neg (by omega)]
    have hmo1 := hC.one hk
    have hne : C.q ≠ [] := by intro e; rw [e] at hq; simp at hq; omega
    have hCt : ({ C with q := C.q.tail } : Ch).ok := ⟨hC.kind, hC.most1, hC.most, hC.one, hC.size, hC.lost, by have := hC.len; show C.q.tail.length ≤ C.most; simp; omega, fun m hm => hC.fit m (List.mem_of_mem_tail hm)⟩
    have hn16 : C.q.tail.length < 16 := by simp; omega
    have HP := Lib.hid hs; clear hs
    rw [hq, hmo1] at c4
    rw [hmo1] at c1
    rw [hk] at c0
    have HNE := Lib.hid hne
    have hb0 := h.lt
    have h' := Lib.hid h; clear h hq hk hmo1 hne
    go_enter Try.func10, Try.ntmps10
    go_wp2
    go_region
    all_goals
      go_wp2_with fail
      refine (remove_calls w.drew b C f hC hf HNE.out h'.out).mono ?_
      rintro e w1 ⟨rfl, hk1, hg1⟩
      have G0 : w.grownBy w1 (some b) := grown_of_drew hg1
      obtain ⟨C1, hC1e⟩ : ∃ C1 : Ch, Hid (C1 = ({ C with q := C.q.tail } : Ch)) := ⟨_, rfl⟩
      obtain ⟨f1, hf1e⟩ : ∃ f1, Hid (f1 = (f + 1) % 16) := ⟨_, rfl⟩
      have HP2 : Hid (C.send l now = ({ C1 with q := C1.q ++ [⟨l, now⟩] }, 0)) := by rw [hC1e.out]; exact HP
      clear HP
      have HP := HP2
      clear HP2
      have hf1 : f1 < 16 := by have := hf1e.out; omega
      have hC1 : C1.ok := by rw [hC1e.out]; exact hCt
      have hn1 : C1.q.length < 16 := by rw [hC1e.out]; exact hn16
      rw [← hC1e.out, ← hf1e.out] at hk1
      have K0 := hk1
      have R0 : RB w1 B A l := hr.grownNe G0 hB' hB
      have hB1 : B ≤ w1.heap.size := Nat.le_trans hB' G0.size
      have hbs : b < w1.heap.size := K0.lt
      clear hr hn16 c0 c1 c2 c4 hB' hb0 hk1 hg1 h' hCt
      go_wp2_with (first
        | ((with_reducible show wpList _ _ _ (Oper.mk _ (Op.build _ _) _ _ _ _ :: _) _ _); refine wpList_nmsg rfl _ _ rfl l.length now rfl rfl ?_)
        | ((with_reducible show wpList _ _ _ (Oper.mk _ (Op.alloc _) _ _ _ _ :: _) _ _); refine wpList_allocMsg rfl rfl ?_))
      intro w2 hb2 hg2
      have K2 := K0.grown hg2 (by simp)
      have R2 := R0.grown hg2 hB1 (by simp)
      go_wp2_with ((with_reducible show wpList _ _ _ (Oper.mk _ (Op.store 59 _ _) _ _ _ _ :: _) _ _); refine wpList_storeMsg rfl _ _ rfl w1.heap.size 0 (mcells zmsg) (ncells l.length now) rfl rfl hb2 (by simp [ncells]) (by rw [mcells_len _ (by simp [zmsg])]; decide) (ncells_one _ _) (ncells l.length now) (by rw [List.take_zero, List.nil_append, List.drop_of_length_le (by rw [mcells_len _ (by simp [zmsg])]; simp [ncells]), List.append_nil]) ?_)
      intro w3 hb3 hg3
      have K3 := K2.grown hg3 (fun e => by injection e with e; omega)
      have R3 := R2.grown hg3 (Nat.le_trans hB1 hg2.size) (fun k e => by injection e with e; omega)
      go_wp2_with (refine wpList_copyMsg rfl _ _ rfl w1.heap.size 64 rfl A l.length c l rfl rfl B R3 hl64 now hb3 ?_)
      intro w4 hb4 hg4
      have K4 := K3.grown hg4 (fun e => by injection e with e; omega)
      have G4 : w.grownBy w4 (some b) := by
        have z2 := G0.trans (grown_none hg2)
        refine ⟨hg4.os.trans (hg3.os.trans z2.os), hg4.tape.trans (hg3.tape.trans z2.tape), hg4.output.trans (hg3.output.trans z2.output), Nat.le_trans z2.size (Nat.le_trans hg3.size hg4.size), fun k hk hne => ?_⟩
        have hk1 : k < w1.heap.size := Nat.lt_of_lt_of_le hk G0.size
        have hk2 : k < w2.heap.size := Nat.lt_of_lt_of_le hk1 hg2.size
        rw [hg4.block k (Nat.lt_of_lt_of_le hk2 hg3.size) (fun e => by injection e with e; omega), hg3.block k hk2 (fun e => by injection e with e; omega)]
        exact z2.block k hk hne
      have hsz4 : b < w4.heap.size := K4.lt
      have hs14 : w1.heap.size < w4.heap.size := hb4.lt
      clear K0 K2 K3 R0 R2 R3 hb2 hb3 hg2 hg3 hg4 G0
      go_wp2_with fail
      have V0 : ∀ w', Below w4.drew.heap.size w4.drew w' → Blk w' b (ccells C1 f1) := fun w' hb => K4.below (w := w4.drew) hb hsz4
      have V1 : ∀ w', Below w4.drew.heap.size w4.drew w' → Blk w' w1.heap.size (mcells ⟨l, now⟩) := fun w' hb => Blk.below (w := w4.drew) hb4 hb hs14
      have L1 : ∀ w', Below w4.drew.heap.size w4.drew w' → (Instr.loadAt 3 (.pointer (some ⟨b, 4, none⟩))).run Try.prog w' = .ok (.int .i64 C1.q.length) w' := fun w' hb => by
        have c4' : w'.cell? ⟨b, 4, none⟩ = some (.int .i64 C1.q.length) := (V0 w' hb).cell rfl
        go_simp
      have L2 : ∀ w', Below w4.drew.heap.size w4.drew w' → (Instr.loadAt 59 (.pointer (some ⟨w1.heap.size, 0, none⟩))).run Try.prog w' = .ok (.agg (mcells ⟨l, now⟩).toArray) w' := fun w' hb =>
        run_loadAt_mid w' w1.heap.size 0 59 (mcells ⟨l, now⟩) _ ((V1 w' hb).range 0 _ ⟨[], [], by simp, rfl⟩) Try.underlying59 rfl (by rw [infoMsg, mcells_len _ hl64])
      have L3 : ∀ w', (Instr.fieldAt 62 (.pointer (some ⟨b, 0, none⟩)) 4).run Try.prog w' = .ok (.pointer (some ⟨b, 4, none⟩)) w' := fun w' => by go_simp
      have L4 : ∀ (v u : Value) w', Below w4.drew.heap.size w4.drew w' → v = .pointer (some ⟨b, 0, none⟩) → u = .int .i64 C1.q.length → Calls Try.prog 19 #[v, u] w' fun e w'' => ∃ v, e = .returned v ∧ v = .pointer (some ⟨b, 6 + 66 * ((f1 + C1.q.length) % 16), none⟩) ∧ Below w'.heap.size w' w'' := by
        rintro v u w' hb rfl rfl
        refine (at_calls w' b f1 C1.q.length hf1 (by omega) ((V0 w' hb).cell rfl)).mono ?_
        rintro e w'' ⟨rfl, rfl⟩
        exact ⟨_, rfl, rfl, (Below.refl _ _).drew⟩
      let D : Nat → VD := fun i => ([.is (.pointer (some ⟨b, 0, none⟩)), .is (.pointer (some ⟨b, 0, none⟩)), .is (.pointer (some ⟨b, 0, none⟩)), .is (.pointer (some ⟨b, 4, none⟩)), .is (.int .i64 C1.q.length), .is (.pointer (some ⟨b, 6 + 66 * ((f1 + C1.q.length) % 16), none⟩)), .is (.agg (mcells ⟨l, now⟩).toArray), .is (.pointer (some ⟨b, 6 + 66 * ((f1 + C1.q.length) % 16), none⟩)), .is undef] : List VD).getD i (.is undef)
      refine region_monoL D 8 (by kernel_rfl) (by kernel_rfl) (by kernel_rfl) (by kernel_rfl) (by kernel_rfl) (fun i hi hne => ?_) ?_
      · match i, hi, hne with
        | 0, _, _ => exact mstep_first rfl (mwant_none rfl) 0 (Or.inl rfl) (by kernel_rfl) (fun _ _ => rfl)
        | 1, _, _ => exact mstep_first rfl (mwant_none rfl) 0 (Or.inl rfl) (by kernel_rfl) (fun _ _ => rfl)
        | 2, _, _ => exact mstep_nil rfl (mwant_none rfl) 55 rfl 1 (by kernel_rfl) rfl _ rfl rfl
        | 3, _, _ => exact mstep_field rfl (mwant_none rfl) 56 _ _ rfl 2 (by kernel_rfl) rfl _ _ rfl rfl L3
        | 4, _, _ => exact mstep_load rfl (mwant_none rfl) 57 _ rfl 3 (by kernel_rfl) rfl _ _ rfl rfl L1
        | 5, _, _ => exact mstep_call2 rfl (mwant_none rfl) _ 54 58 _ rfl (enters_of Try.func19 (by kernel_rfl) rfl) 0 4 (by kernel_rfl) (by kernel_rfl) rfl rfl L4
        | 6, _, _ => exact mstep_loadT rfl (mwant_none rfl) 7 _ rfl (by kernel_rfl) _ _ rfl rfl L2
        | 7, _, _ => exact mstep_nil rfl (mwant_none rfl) 59 rfl 5 (by kernel_rfl) rfl _ rfl rfl
        | 8, _, h => exact absurd rfl h
        | n + 9, h, _ => exact absurd h (by show ¬ (n + 9 < 9); omega)
      · intro o a w5 ho hb hde hts hok hor
        obtain rfl := Option.some.inj ho
        have e60 : a.tmps.getD 60 undef = .agg (mcells ⟨l, now⟩).toArray := hok 6 60 (by decide) rfl
        have e61 : a.tmps.getD 61 undef = .pointer (some ⟨b, 6 + 66 * ((f1 + C1.q.length) % 16), none⟩) := hok 7 61 (by decide) rfl
        have e0 : a.tmps.getD 0 undef = .pointer (some ⟨b, 0, none⟩) := hor 0 (fun i _ => free_dst (by kernel_rfl) i)
        have K5 := V0 w5 hb
        have hlen5 := ccells_len C1 hC1 f1
        have hml := mcells_len ⟨l, now⟩ hl64
        refine ⟨rfl, wp_store_mid 59 _ _ rfl b (6 + 66 * ((f1 + C1.q.length) % 16)) (mcells ⟨l, now⟩).toArray e61 e60 (K5.there _ _ (by simp only [List.size_toArray]; omega)) (by rw [infoMsg]; simp [hml]) (all_oneCell_toArray (mcells_one _)) ?_⟩
        have K6 := K5.setCells (mcells ⟨l, now⟩) (6 + 66 * ((f1 + C1.q.length) % 16)) (by omega)
        rw [ccells_store C1 hC1 f1 _ (Nat.mod_lt _ (by decide)) ⟨l, now⟩ hl64, ring_push f1 C1.q hf1 hn1 ⟨l, now⟩] at K6
        have G6 : w.grownBy (w5.setCells b (6 + 66 * ((f1 + C1.q.length) % 16)) (mcells ⟨l, now⟩)) (some b) := by
          refine World.grownBy.trans ?_ (grown_setCells _ _ _ _)
          refine ⟨hb.os.trans G4.os, hb.tape.trans G4.tape, hb.output.trans G4.output, Nat.le_trans G4.size hb.size, fun k hk hne => ?_⟩
          exact (hb.block k (Nat.lt_of_lt_of_le hk G4.size)).trans (G4.block k hk hne)
        show Exit.then _ _ Exit.normal a (w5.setCells b (6 + 66 * ((f1 + C1.q.length) % 16)) (mcells ⟨l, now⟩))
        obtain ⟨w6, hw6⟩ : ∃ w6, w6 = w5.setCells b (6 + 66 * ((f1 + C1.q.length) % 16)) (mcells ⟨l, now⟩) := ⟨_, rfl⟩
        rw [← hw6] at K6 G6 ⊢
        clear hw6 K5 V0 V1 L1 L2 L4 hb hor hok e60 e61
        obtain ⟨tm, df⟩ := a
        obtain rfl : df = [] := hde
        have hlit := lit_of 69 tm hts
        obtain ⟨F, hF⟩ : ∃ F : Nat → Value, F = fun i => tm.getD i undef := ⟨_, rfl⟩
        rw [← hF] at hlit
        have e0' : F 0 = .pointer (some ⟨b, 0, none⟩) := by rw [hF]; exact e0
        clear e0 hF hts
        have hlit2 : tm = #[F 0, F 1, F 2, F 3, F 4, F 5, F 6, F 7, F 8, F 9, F 10, F 11, F 12, F 13, F 14, F 15, F 16, F 17, F 18, F 19, F 20, F 21, F 22, F 23, F 24, F 25, F 26, F 27, F 28, F 29, F 30, F 31, F 32, F 33, F 34, F 35, F 36, F 37, F 38, F 39, F 40, F 41, F 42, F 43, F 44, F 45, F 46, F 47, F 48, F 49, F 50, F 51, F 52, F 53, F 54, F 55, F 56, F 57, F 58, F 59, F 60, F 61, F 62, F 63, F 64, F 65, F 66, F 67, F 68] := hlit
        clear hlit
        subst hlit2
        rw [e0']
        have c4 : w6.cell? ⟨b, 4, none⟩ = some (.int .i64 C1.q.length) := K6.cell rfl
        have f4 := K6.free 4
        obtain ⟨n1, hn1e⟩ : ∃ n1, Hid (n1 = C1.q.length) := ⟨_, rfl⟩
        rw [← hn1e.out] at c4
        have hn1' : n1 < 16 := by have := hn1e.out; omega
        have KK := Lib.hid K6; clear K6
        have GG := Lib.hid G6; clear G6
        refine (by assumption : ∀ (a : Act) (w : World), Code.wp _ _ _ a w → _) _ _ ?_
        go_wp2
        go_ret
        unfold RetSend
        rw [HP.out]
        refine ⟨rfl, ⟨f1, hf1, ?_⟩, GG.out.trans (grown_setCell _ _ _)⟩
        have := KK.out.setCell 4 (.int .i64 ((n1 : Int) + 1))
        have e : (hd C1 f1 C1.q.length ++ (ringL f1 (C1.q ++ [⟨l, now⟩])).flatten).set 4 (.int .i64 ((n1 : Int) + 1)) = ccells { C1 with q := C1.q ++ [⟨l, now⟩] } f1 := by
          unfold ccells
          rw [hn1e.out]
          simp [hd]
        rw [e] at this
        exact this
end Go.Proofs.Ytdjphdkoljfndaa
