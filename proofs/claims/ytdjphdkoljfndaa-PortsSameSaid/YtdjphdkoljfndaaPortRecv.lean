/- Send in one contract; Receive. -/
import Derived.Test.YtdjphdkoljfndaaPortPush
namespace Go.Proofs.Ytdjphdkoljfndaa
open Go.RowKit Nac
theorem send_calls (w : World) (B b : Nat) (C : Ch) (f : Nat) (A : Option Addr) (c : Nat) (l : List UInt8) (now : Nat) (hC : C.ok) (hf : f < 16) (h : Blk w b (ccells C f)) (hr : RB w B A l) (hB' : B ≤ w.heap.size) (hB : B ≤ b ∨ A.map (·.block) ≠ some b) (h8 : l.length ≤ 140737488351232) :
    Calls Try.prog 10 #[.pointer (some ⟨b, 0, none⟩), .slice A l.length c, .int .u64 now] w (RetSend w b C l now) := by
  have hlen := hC.len
  have hk2 := hC.kind
  by_cases hl : C.size < l.length
  · exact send_long w b C f A c l now hC hf h h8 hl
  · by_cases hq : C.q.length = C.most
    · by_cases hk : C.kind = 1
      · exact send_full1 w b C f A c l now hC hf h h8 (by omega) hq hk
      · by_cases hk' : C.kind = 2
        · exact send_full2 w b C f A c l now hC hf h h8 (by omega) hq hk'
        · exact send_push w B b C f A c l now hC hf h hr hB' hB (by omega) (.inr ⟨hq, by omega⟩)
    · exact send_push w B b C f A c l now hC hf h hr hB' hB (by omega) (.inl (by omega))
theorem OB.setCells {base g c : Nat} : ∀ (vs : List UInt8) (o : Nat) {w : World} {l : List UInt8}, OB w base (some ⟨g, 0, none⟩) c l → o + vs.length ≤ l.length → OB (w.setCells g o (vs.map bv)) base (some ⟨g, 0, none⟩) c (l.take o ++ vs ++ l.drop (o + vs.length))
  | [], o, w, l, h, _ => by simpa [World.setCells] using h
  | v :: vs, o, w, l, h, hl => by
    rw [List.map_cons, World.setCells]
    have hl' : o + 1 + vs.length ≤ l.length := by simp at hl; omega
    have := OB.setCells vs (o + 1) (h.set o v rfl) (by simpa using hl')
    have e : (l.set o v).take (o + 1) ++ vs ++ (l.set o v).drop (o + 1 + vs.length) = l.take o ++ (v :: vs) ++ l.drop (o + (v :: vs).length) := by
      rw [List.take_succ_eq_append_getElem (by simp; omega), List.getElem_set_self, List.take_set_of_le (by omega), List.drop_set_of_lt (by omega)]
      simp [Nat.add_assoc, Nat.add_comm 1]
    rw [e] at this
    exact this
/-- copy(b, m.data[:]) -/
theorem wpList_copyOut {w : World} {ops : Array Oper} {rest : List Oper} {o : Oper} {a : Act} {Q : Exit → Act → World → Prop} (hg : o.guard = none) (d s : Operand) (hop : o.op = .call { callee := .builtin .copy, args := #[d, s], argTypes := #[30, 30] })
    (base g n h c : Nat) (m : Msg) (hn : n = m.b.length) (hd : a.eval d = .slice (some ⟨g, 0, none⟩) n n) (hs : a.eval s = .slice (some ⟨h, 0, none⟩) 64 c) (hl : m.b.length ≤ 64) (L : List UInt8) (ho : OB w base (some ⟨g, 0, none⟩) n L) (hL : L.length = n) (hb : Blk w h (mcells m))
    (hK : ∀ w', OB w' base (some ⟨g, 0, none⟩) n m.b → w.grownBy w' (some g) → wpList Try.prog ops Q rest (a.put o.dst (goInt n)) w') : wpList Try.prog ops Q (o :: rest) a w := by
  have hi1 : (Try.prog.info? 5).map (·.size) = some 1 := by kernel_rfl
  have hmin : Nat.min 64 n = n := Nat.min_eq_right (by omega)
  have hob : OB (w.setCells g 0 (m.b.map bv)) base (some ⟨g, 0, none⟩) n m.b := by
    have := OB.setCells m.b 0 ho (by omega)
    rw [List.take_zero, List.nil_append, List.drop_of_length_le (by omega), List.append_nil] at this
    exact this
  have hrun : (Builtin.copy_ #[30, 30] o.type #[.slice (some ⟨g, 0, none⟩) n n, .slice (some ⟨h, 0, none⟩) 64 c]).run Try.prog w = .ok (goInt n) (w.setCells g 0 (m.b.map bv)) := by
    have := run_copy_cells (P := Try.prog) w 30 30 o.type 5 g 0 n n ⟨h, 0, none⟩ 64 c (m.b.map bv) Try.underlying30 hi1 (by rw [List.length_map, hmin, hn])
      (fun j v hv => by
        have hj : j < m.b.length := by simpa using (List.getElem?_eq_some_iff.1 hv).1
        rw [Addr.add_mid, Nat.zero_add]
        refine hb.cell ?_
        unfold mcells pad
        rw [List.getElem?_append_left (by simp; omega), List.map_append, List.getElem?_append_left (by simpa using hj)]
        exact hv)
      (fun j hj => by rw [Nat.zero_add, ho.cellAt (k := j) (by simp at hj; omega)]; rfl) (fun j hj => by rw [Nat.zero_add]; exact ho.freeAt j) (bv_oneCell m.b)
    rw [List.length_map, ← hn] at this
    exact this
  refine wpList_plain hg fun K hKK => ?_
  unfold Oper.wp
  simp [execOp, hop, resolve, invoke, builtin, hd, hs, hrun, Result.andThen]
  exact hKK _ _ (hK _ hob (grown_setCells _ _ _ _))
def RetRecv (w : World) (b : Nat) (C : Ch) (now : Nat) (e : Ending) (w' : World) : Prop :=
  ∃ A c, e = .returned (.tuple #[.slice A (C.recv now).2.1.length c, .int .u64 (C.recv now).2.2.1, .int .i64 (C.recv now).2.2.2]) ∧ OB w' w.heap.size A c (C.recv now).2.1 ∧ (∃ f', f' < 16 ∧ Blk w' b (ccells (C.recv now).1 f')) ∧ w.grownBy w' (some b)
set_option maxHeartbeats 2000000 in
theorem recv_none (w : World) (b : Nat) (C : Ch) (f : Nat) (now : Nat) (hf : f < 16) (h : Blk w b (ccells C f)) (hq : C.q = []) :
    Calls Try.prog 9 #[.pointer (some ⟨b, 0, none⟩), .int .u64 now] w (RetRecv w b C now) := by
  have hs : C.recv now = (C, [], 0, 6) := by unfold Ch.recv; rw [hq]
  have HS := Lib.hid hs; clear hs
  have c4 : w.cell? ⟨b, 4, none⟩ = some (.int .i64 C.q.length) := h.cell rfl
  rw [hq] at c4
  have c4' : w.cell? ⟨b, 4, none⟩ = some (.int .i64 0) := c4
  clear c4 hq
  go_enter Try.func9, Try.ntmps9
  go_wp2
  go_ret3
  unfold RetRecv
  rw [HS.out]
  exact ⟨none, 0, rfl, OB.nil _ _, ⟨f, hf, h⟩, World.grownBy.refl w _⟩
theorem mcells_64 (m : Msg) (h : m.b.length ≤ 64) : (mcells m)[64]? = some (.int .i64 m.b.length) := by
  unfold mcells
  have e : ((pad m.b).map bv).length = 64 := by simp [pad]; omega
  rw [List.getElem?_append_right (by omega), e]
  rfl
theorem mcells_65 (m : Msg) (h : m.b.length ≤ 64) : (mcells m)[65]? = some (.int .u64 m.at_) := by
  unfold mcells
  have e : ((pad m.b).map bv).length = 64 := by simp [pad]; omega
  rw [List.getElem?_append_right (by omega), e]
  rfl
set_option maxHeartbeats 4000000 in
theorem recv_some (w : World) (b : Nat) (C : Ch) (f : Nat) (now : Nat) (hC : C.ok) (hf : f < 16) (h : Blk w b (ccells C f)) (m : Msg) (r : List Msg) (hq : C.q = m :: r) (hnow : now ≤ 18446744073709551615) :
    Calls Try.prog 9 #[.pointer (some ⟨b, 0, none⟩), .int .u64 now] w (RetRecv w b C now) := by
  have hs : C.recv now = (if C.kind = 0 then C else { C with q := r }, m.b, now - m.at_, 0) := by unfold Ch.recv; rw [hq]
  obtain ⟨hl, hat⟩ := hC.fit m (by rw [hq]; exact List.mem_cons_self)
  have hml := mcells_len m hl
  have c0 : w.cell? ⟨b, 0, none⟩ = some (.int .i64 C.kind) := h.cell rfl
  have c3 : w.cell? ⟨b, 3, none⟩ = some (.int .i64 f) := h.cell rfl
  have c4 : w.cell? ⟨b, 4, none⟩ = some (.int .i64 C.q.length) := h.cell rfl
  obtain ⟨k, hk⟩ : ∃ k, k = C.q.length := ⟨_, rfl⟩
  have hk1 : 1 ≤ k := by rw [hk, hq]; simp
  rw [← hk] at c4
  have HKL := Lib.hid hk; clear hk
  obtain ⟨n, hn⟩ : ∃ n, n = m.b.length := ⟨_, rfl⟩
  have hn64 : n ≤ 64 := by omega
  have HN := Lib.hid hn; clear hn
  have HQ := Lib.hid hq
  have hslot := ccells_slot C hC f f hf
  rw [slot_front f C.q hf m r hq] at hslot
  have hne : C.q ≠ [] := by rw [hq]; simp
  have HNE := Lib.hid hne; clear hne
  have HSL := Lib.hid hslot; clear hslot
  have hbw := h.lt
  clear hq
  obtain ⟨G, hGe⟩ : ∃ G, Hid (G = w.heap.size) := ⟨_, rfl⟩
  by_cases hk0 : C.kind = 0
  · rw [if_pos hk0] at hs
    have HS := Lib.hid hs; clear hs
    have HK0 := Lib.hid hk0
    go_enter Try.func9, Try.ntmps9
    go_wp2_with fail
    refine (at_calls w b f 0 hf (by omega) c3).mono ?_
    rintro e w' ⟨rfl, rfl⟩
    rw [Nat.add_zero, Nat.mod_eq_of_lt hf]
    have K1 : Blk w.drew b (ccells C f) := h
    go_wp2_with (first
      | ((with_reducible show wpList _ _ _ (Oper.mk _ (Op.load 59 _) _ _ _ _ :: _) _ _); refine wpList_loadMsg rfl _ rfl b (6 + 66 * f) (ccells C f) (mcells m) rfl K1 HSL.out hml ?_)
      | ((with_reducible show wpList _ _ _ (Oper.mk _ (Op.alloc _) _ _ _ _ :: _) _ _); refine wpList_allocMsg rfl rfl ?_))
    intro w2 hb2 hg2
    have K2 := K1.grown hg2 (by simp)
    rw [← hGe.out] at hb2 ⊢
    go_wp2_with ((with_reducible show wpList _ _ _ (Oper.mk _ (Op.store 59 _ _) _ _ _ _ :: _) _ _); refine wpList_storeMsg rfl _ _ rfl G 0 (mcells zmsg) (mcells m) rfl rfl hb2 hml (by rw [mcells_len _ (by simp [zmsg])]; decide) (mcells_one _) (mcells m) (by rw [List.take_zero, List.nil_append, List.drop_of_length_le (by rw [mcells_len _ (by simp [zmsg]), hml]; decide), List.append_nil]) ?_)
    intro w4 hb4 hg3
    have K3 := K2.grown hg3 (fun e => by injection e with e; have := hGe.out; omega)
    have c0' : w4.cell? ⟨b, 0, none⟩ = some (.int .i64 C.kind) := K3.cell rfl
    have G4 : w.grownBy w4 (some b) := ⟨hg3.os.trans hg2.os, hg3.tape.trans hg2.tape, hg3.output.trans hg2.output, Nat.le_trans hg2.size hg3.size, fun k hk _ => by
      rw [hg3.block k (Nat.lt_of_lt_of_le hk hg2.size) (fun e => by injection e with e; have := hGe.out; omega)]
      exact hg2.block k hk (by simp)⟩
    clear hg2 hg3 hb2 K1 K2 c0 c3 c4 h
    rw [hk0] at c0'
    clear hk0
    have K4 : ∃ f', f' < 16 ∧ Blk w4 b (ccells (C.recv now).1 f') := by rw [HS.out]; exact ⟨f, hf, K3⟩
    have HS2 : Hid ((C.recv now).2 = (m.b, now - m.at_, 0)) := by show _ = _; rw [HS.out]
    clear K3 HS
    have c64 : w4.cell? ⟨G, 64, none⟩ = some (.int .i64 n) := hb4.cell (by rw [HN.out]; exact mcells_64 m hl)
    have c65 : w4.cell? ⟨G, 65, none⟩ = some (.int .u64 m.at_) := hb4.cell (mcells_65 m hl)
    have hGlt : G < w4.heap.size := hb4.lt
    have hbase : w.heap.size ≤ w4.heap.size := G4.size
    go_wp2_with (at_make; refine wpList_makeN_bytes w4 rfl _ _ rfl w.heap.size .i64 .i64 _ n rfl rfl rfl (by omega) hbase ?_)
    intro w5 L HL ho5 hg5
    have hb5 := hb4.grown hg5 (by simp)
    have hLl : L.length = n := by rw [HL.out]; simp
    have HLL := Lib.hid hLl; clear hLl
    have hb40 : b < w4.heap.size := by have := hGe.out; omega
    obtain ⟨f9, hf9, K4⟩ := K4
    have K5 := K4.grown hg5 (by simp)
    clear c64
    go_wp2_with (refine wpList_copyOut rfl _ _ rfl w.heap.size w4.heap.size n G 64 m HN.out rfl rfl hl L ho5 HLL.out hb5 ?_)
    intro w6 ho6 hg6
    have hb6 := hb5.grown hg6 (fun e => by injection e with e; omega)
    have K6 := K5.grown hg6 (fun e => by injection e with e; omega)
    have c65' : w6.cell? ⟨G, 65, none⟩ = some (.int .u64 m.at_) := hb6.cell (mcells_65 m hl)
    have G6 : w.grownBy w6 (some b) := ⟨hg6.os.trans (hg5.os.trans G4.os), hg6.tape.trans (hg5.tape.trans G4.tape), hg6.output.trans (hg5.output.trans G4.output), Nat.le_trans G4.size (Nat.le_trans hg5.size hg6.size), fun k hk hne => by
      have hk4 : k < w4.heap.size := Nat.lt_of_lt_of_le hk hbase
      rw [hg6.block k (Nat.lt_of_lt_of_le hk4 hg5.size) (fun e => by injection e with e; omega), hg5.block k hk4 (by simp)]
      exact G4.block k hk hne⟩
    obtain ⟨t, ht⟩ : ∃ t : Int, Hid (t = (m.at_ : Int)) := ⟨_, rfl⟩
    obtain ⟨u, hu⟩ : ∃ u : Int, Hid (u = (now : Int)) := ⟨_, rfl⟩
    rw [← ht.out] at c65'
    have t0 : 0 ≤ t := by have := ht.out; omega
    have t1 : t ≤ 18446744073709551615 := by have := ht.out; omega
    have u0 : 0 ≤ u := by have := hu.out; omega
    have u1 : u ≤ 18446744073709551615 := by have := hu.out; omega
    have hfin : ∀ e, e = Ending.returned (.tuple #[.slice (some ⟨w4.heap.size, 0, none⟩) n n, .int .u64 ((now - m.at_ : Nat) : Int), .int .i64 0]) → RetRecv w b C now e w6 := by
      rintro e rfl
      unfold RetRecv
      rw [HS2.out]
      exact ⟨_, n, by rw [← HN.out], ho6, ⟨f9, hf9, K6⟩, G6⟩
    have HF := Lib.hid hfin; clear hfin
    clear hb4 hb5 hb6 ho5 ho6 hg5 hg6 K4 K5 K6 G4 G6 c65 hnow hat
    rw [← hu.out]
    by_cases hlt : m.at_ < now
    · have h2 : t < u := by have := ht.out; have := hu.out; omega
      have HLT := Lib.hid hlt; clear hlt
      go_wp2
      go_ret3
      refine HF.out _ ?_
      have e : ((now - m.at_ : Nat) : Int) = u - t := by have := ht.out; have := hu.out; have := HLT.out; omega
      rw [e]
      rfl
    · have h2 : u ≤ t := by have := ht.out; have := hu.out; omega
      have HLT := Lib.hid hlt; clear hlt
      go_wp2
      go_ret3
      refine HF.out _ ?_
      have e : ((now - m.at_ : Nat) : Int) = 0 := by have := HLT.out; omega
      rw [e]
      rfl
  · rw [if_neg hk0] at hs
    have HS := Lib.hid hs; clear hs
    have hk01 : 1 ≤ C.kind := by omega
    go_enter Try.func9, Try.ntmps9
    go_wp2_with fail
    refine (at_calls w b f 0 hf (by omega) c3).mono ?_
    rintro e w' ⟨rfl, rfl⟩
    rw [Nat.add_zero, Nat.mod_eq_of_lt hf]
    have K1 : Blk w.drew b (ccells C f) := h
    go_wp2_with (first
      | ((with_reducible show wpList _ _ _ (Oper.mk _ (Op.load 59 _) _ _ _ _ :: _) _ _); refine wpList_loadMsg rfl _ rfl b (6 + 66 * f) (ccells C f) (mcells m) rfl K1 HSL.out hml ?_)
      | ((with_reducible show wpList _ _ _ (Oper.mk _ (Op.alloc _) _ _ _ _ :: _) _ _); refine wpList_allocMsg rfl rfl ?_))
    intro w2 hb2 hg2
    have K2 := K1.grown hg2 (by simp)
    rw [← hGe.out] at hb2 ⊢
    go_wp2_with ((with_reducible show wpList _ _ _ (Oper.mk _ (Op.store 59 _ _) _ _ _ _ :: _) _ _); refine wpList_storeMsg rfl _ _ rfl G 0 (mcells zmsg) (mcells m) rfl rfl hb2 hml (by rw [mcells_len _ (by simp [zmsg])]; decide) (mcells_one _) (mcells m) (by rw [List.take_zero, List.nil_append, List.drop_of_length_le (by rw [mcells_len _ (by simp [zmsg]), hml]; decide), List.append_nil]) ?_)
    intro w3 hb3 hg3
    have K3 := K2.grown hg3 (fun e => by injection e with e; have := hGe.out; omega)
    have c0' : w3.cell? ⟨b, 0, none⟩ = some (.int .i64 C.kind) := K3.cell rfl
    have G3 : w.grownBy w3 (some b) := ⟨hg3.os.trans hg2.os, hg3.tape.trans hg2.tape, hg3.output.trans hg2.output, Nat.le_trans hg2.size hg3.size, fun k hk _ => by
      rw [hg3.block k (Nat.lt_of_lt_of_le hk hg2.size) (fun e => by injection e with e; have := hGe.out; omega)]
      exact hg2.block k hk (by simp)⟩
    clear hg2 hg3 hb2 K1 K2 c0 c3 c4 h
    clear hk0
    go_wp2_with fail
    refine (remove_calls w3 b C f hC hf HNE.out K3).mono ?_
    rintro e w4 ⟨rfl, K4', G4'⟩
    have K4 : ∃ f', f' < 16 ∧ Blk w4 b (ccells (C.recv now).1 f') := by
      rw [HS.out]
      refine ⟨(f + 1) % 16, Nat.mod_lt _ (by decide), ?_⟩
      have := K4'
      rw [show C.q.tail = r by rw [HQ.out]; rfl] at this
      exact this
    have HS2 : Hid ((C.recv now).2 = (m.b, now - m.at_, 0)) := by show _ = _; rw [HS.out]
    have hb4 := hb3.grown G4' (fun e => by injection e with e; have := hGe.out; omega)
    have G4 := G3.trans G4'
    clear K3 HS K4' G4' G3 hb3 c0'
    have c64 : w4.cell? ⟨G, 64, none⟩ = some (.int .i64 n) := hb4.cell (by rw [HN.out]; exact mcells_64 m hl)
    have c65 : w4.cell? ⟨G, 65, none⟩ = some (.int .u64 m.at_) := hb4.cell (mcells_65 m hl)
    have hGlt : G < w4.heap.size := hb4.lt
    have hbase : w.heap.size ≤ w4.heap.size := G4.size
    go_wp2_with (at_make; refine wpList_makeN_bytes w4 rfl _ _ rfl w.heap.size .i64 .i64 _ n rfl rfl rfl (by omega) hbase ?_)
    intro w5 L HL ho5 hg5
    have hb5 := hb4.grown hg5 (by simp)
    have hLl : L.length = n := by rw [HL.out]; simp
    have HLL := Lib.hid hLl; clear hLl
    have hb40 : b < w4.heap.size := by have := hGe.out; omega
    obtain ⟨f9, hf9, K4⟩ := K4
    have K5 := K4.grown hg5 (by simp)
    clear c64
    go_wp2_with (refine wpList_copyOut rfl _ _ rfl w.heap.size w4.heap.size n G 64 m HN.out rfl rfl hl L ho5 HLL.out hb5 ?_)
    intro w6 ho6 hg6
    have hb6 := hb5.grown hg6 (fun e => by injection e with e; omega)
    have K6 := K5.grown hg6 (fun e => by injection e with e; omega)
    have c65' : w6.cell? ⟨G, 65, none⟩ = some (.int .u64 m.at_) := hb6.cell (mcells_65 m hl)
    have G6 : w.grownBy w6 (some b) := ⟨hg6.os.trans (hg5.os.trans G4.os), hg6.tape.trans (hg5.tape.trans G4.tape), hg6.output.trans (hg5.output.trans G4.output), Nat.le_trans G4.size (Nat.le_trans hg5.size hg6.size), fun k hk hne => by
      have hk4 : k < w4.heap.size := Nat.lt_of_lt_of_le hk hbase
      rw [hg6.block k (Nat.lt_of_lt_of_le hk4 hg5.size) (fun e => by injection e with e; omega), hg5.block k hk4 (by simp)]
      exact G4.block k hk hne⟩
    obtain ⟨t, ht⟩ : ∃ t : Int, Hid (t = (m.at_ : Int)) := ⟨_, rfl⟩
    obtain ⟨u, hu⟩ : ∃ u : Int, Hid (u = (now : Int)) := ⟨_, rfl⟩
    rw [← ht.out] at c65'
    have t0 : 0 ≤ t := by have := ht.out; omega
    have t1 : t ≤ 18446744073709551615 := by have := ht.out; omega
    have u0 : 0 ≤ u := by have := hu.out; omega
    have u1 : u ≤ 18446744073709551615 := by have := hu.out; omega
    have hfin : ∀ e, e = Ending.returned (.tuple #[.slice (some ⟨w4.heap.size, 0, none⟩) n n, .int .u64 ((now - m.at_ : Nat) : Int), .int .i64 0]) → RetRecv w b C now e w6 := by
      rintro e rfl
      unfold RetRecv
      rw [HS2.out]
      exact ⟨_, n, by rw [← HN.out], ho6, ⟨f9, hf9, K6⟩, G6⟩
    have HF := Lib.hid hfin; clear hfin
    clear hb4 hb5 hb6 ho5 ho6 hg5 hg6 K4 K5 K6 G4 G6 c65 hnow hat
    rw [← hu.out]
    by_cases hlt : m.at_ < now
    · have h2 : t < u := by have := ht.out; have := hu.out; omega
      have HLT := Lib.hid hlt; clear hlt
      go_wp2
      go_ret3
      refine HF.out _ ?_
      have e : ((now - m.at_ : Nat) : Int) = u - t := by have := ht.out; have := hu.out; have := HLT.out; omega
      rw [e]
      rfl
    · have h2 : u ≤ t := by have := ht.out; have := hu.out; omega
      have HLT := Lib.hid hlt; clear hlt
      go_wp2
      go_ret3
      refine HF.out _ ?_
      have e : ((now - m.at_ : Nat) : Int) = 0 := by have := HLT.out; omega
      rw [e]
      rfl
theorem recv_calls (w : World) (b : Nat) (C : Ch) (f : Nat) (now : Nat) (hC : C.ok) (hf : f < 16) (h : Blk w b (ccells C f)) (hnow : now ≤ 18446744073709551615) :
    Calls Try.prog 9 #[.pointer (some ⟨b, 0, none⟩), .int .u64 now] w (RetRecv w b C now) := by
  cases hq : C.q with
  | nil => exact recv_none w b C f now hf h hq
  | cons m r => exact recv_some w b C f now hC hf h m r hq hnow
end Go.Proofs.Ytdjphdkoljfndaa
