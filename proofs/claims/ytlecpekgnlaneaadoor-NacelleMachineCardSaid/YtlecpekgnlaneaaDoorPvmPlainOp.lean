/- pvm: plain. -/
import Derived.Test.YtlecpekgnlaneaaDoorPvmMach
import Derived.Test.YtlecpekgnlaneaaDoorTailM
namespace Go.Proofs.YtlecpekgnlaneaaDoor
open Go.RowKit Nac Nac.Pvm
def RetPlain (w : World) (b base : Nat) (A : Option Addr) (c : Nat) (m : Mach) (e : Ending) (w' : World) : Prop := e = .returned (.tuple #[]) ∧ MM w' b base A c m ∧ Fr2 b A w w'
theorem MM.drewN {w : World} {b base c : Nat} {A : Option Addr} {m : Mach} (h : MM w b base A c m) (n : Nat) : MM (w.drewN n) b base A c m := ⟨h.blk, h.len, h.own, h.ne⟩
set_option maxHeartbeats 4000000 in
set_option maxRecDepth 100000 in
theorem plain_calls (w : World) (b base : Nat) (A : Option Addr) (c : Nat) (m : Mach) (h : MM w b base A c m) (i : Ins) (hi : i.fits) (hwf : wf i = true) (hne : i.op ≠ 0 ∧ i.op ≠ 17 ∧ i.op ≠ 13 ∧ i.op ≠ 14) (hz : (i.op = 6 ∨ i.op = 7) → m.reg i.c ≠ 0) :
    Calls Tryd.prog 35 #[.pointer (some ⟨b, 0, none⟩), .agg #[.int .u8 i.op, .int .u8 i.a, .int .u8 i.b, .int .u8 i.c]] w (RetPlain w b base A c (plainM m i)) := by
  have HI := Lib.hid hi
  have hops : i.op = 1 ∨ i.op = 2 ∨ i.op = 16 ∨ i.op = 15 ∨ (3 ≤ i.op ∧ i.op ≤ 12) := by
    apply Classical.byContradiction
    intro hn
    rcases (by omega : i.op = 0 ∨ i.op = 13 ∨ i.op = 14 ∨ i.op = 17 ∨ 17 < i.op) with h | h | h | h | h
    · exact hne.1 h
    · exact hne.2.2.1 h
    · exact hne.2.2.2 h
    · exact hne.2.1 h
    · rw [wf_big i h] at hwf; cases hwf
  have ha : i.op ≠ 15 → i.a < 8 := fun h15 => by
    unfold wf at hwf
    rcases hops with h | h | h | h | h
    all_goals (repeat (first | rw [if_neg (by omega)] at hwf | rw [if_pos (by omega)] at hwf)); simp at hwf; try omega
  have hb : (i.op = 2 ∨ (3 ≤ i.op ∧ i.op ≤ 12)) → i.b < 8 := fun h2 => by
    unfold wf at hwf
    rcases h2 with h | h
    all_goals (repeat (first | rw [if_neg (by omega)] at hwf | rw [if_pos (by omega)] at hwf)); simp at hwf; try omega
  have hc : (3 ≤ i.op ∧ i.op ≤ 12) → i.c < 8 := fun h => by
    unfold wf at hwf
    rw [if_neg (by omega), if_neg (by omega), if_neg (by omega), if_neg (by omega), if_pos (by omega)] at hwf
    simp at hwf
    omega
  have HM := Lib.hid h
  obtain ⟨op, a, b9, c9⟩ := i
  simp only at ha hb hc hops hz ⊢
  have hbl := h.blk.lt
  have hbx : Box (w.alloc (.cells #[.int .u8 op, .int .u8 a, .int .u8 b9, .int .u8 c9] 41)) w.heap.size [.int .u8 op, .int .u8 a, .int .u8 b9, .int .u8 c9] := Box.new w _ _
  have HM1 : Hid (MM (w.alloc (.cells #[.int .u8 op, .int .u8 a, .int .u8 b9, .int .u8 c9] 41)) b base A c m) := Lib.hid (h.below ((Below.refl _ _).alloc (Nat.le_refl _) _))
  have HF1 : Hid (Fr2 b A w (w.alloc (.cells #[.int .u8 op, .int .u8 a, .int .u8 b9, .int .u8 c9] 41))) := Lib.hid (Fr2.below ((Below.refl _ _).alloc (Nat.le_refl _) _))
  have HBX := Lib.hid hbx
  have hz1 : (w.alloc (.cells #[.int .u8 op, .int .u8 a, .int .u8 b9, .int .u8 c9] 41)).heap.size = w.heap.size + 1 := by simp
  have XB : Hid (∀ w', Below (w.alloc (.cells #[.int .u8 op, .int .u8 a, .int .u8 b9, .int .u8 c9] 41)).drew.heap.size (w.alloc (.cells #[.int .u8 op, .int .u8 a, .int .u8 b9, .int .u8 c9] 41)).drew w' → w'.cell? ⟨w.heap.size, 0, none⟩ = some (.int .u8 op) ∧ w'.cell? ⟨w.heap.size, 1, none⟩ = some (.int .u8 a) ∧ w'.cell? ⟨w.heap.size, 2, none⟩ = some (.int .u8 b9) ∧ w'.cell? ⟨w.heap.size, 3, none⟩ = some (.int .u8 c9)) := Lib.hid fun w' hb' => by
    have hx := Box.below (w := (w.alloc (.cells #[.int .u8 op, .int .u8 a, .int .u8 b9, .int .u8 c9] 41)).drew) hbx hb' hbx.lt
    exact ⟨hx.cell rfl, hx.cell rfl, hx.cell rfl, hx.cell rfl⟩
  have MB : Hid (∀ w', Below (w.alloc (.cells #[.int .u8 op, .int .u8 a, .int .u8 b9, .int .u8 c9] 41)).drew.heap.size (w.alloc (.cells #[.int .u8 op, .int .u8 a, .int .u8 b9, .int .u8 c9] 41)).drew w' → MM w' b base A c m) := Lib.hid fun w' hb' => HM1.out.drew.below hb'
  clear hbx hz1 h hi hwf hne
  rcases hops with rfl | rfl | rfl | rfl | ho
  · -- Set
    have QA : Hid (a < 8) := Lib.hid (ha (by omega))
    obtain ⟨z, hz9⟩ : ∃ z, z = num ⟨1, a, b9, c9⟩ := ⟨_, rfl⟩
    have HZ := Lib.hid hz9
    have NM : Hid (∀ w', Below (w.alloc (.cells #[.int .u8 (1 : Nat), .int .u8 a, .int .u8 b9, .int .u8 c9] 41)).drew.heap.size (w.alloc (.cells #[.int .u8 (1 : Nat), .int .u8 a, .int .u8 b9, .int .u8 c9] 41)).drew w' → Calls Tryd.prog 30 #[.agg #[.int .u8 (1 : Nat), .int .u8 a, .int .u8 b9, .int .u8 c9]] w' fun e w'' => ∃ v, e = .returned v ∧ v = .int .i64 z ∧ Below w'.heap.size w' w'') := Lib.hid fun w' _ => by
      refine (number_calls' w' ⟨1, a, b9, c9⟩ HI.out).mono ?_
      rintro e w'' ⟨rfl, hq⟩
      exact ⟨_, rfl, by rw [hz9], hq⟩
    have HPL : Hid (plainM m ⟨1, a, b9, c9⟩ = { m with r := m.r.set a z }) := Lib.hid (by rw [hz9]; simp [plainM])
    clear ha hb hc hz hz9
    go_enter Tryd.func35, Tryd.ntmps35
    go_wp2_with fail
    refine region_tails 8 (fun ix9 => ([.is (.pointer (some ⟨b, 0, none⟩)), .is (.pointer (some ⟨w.heap.size, 1, none⟩)), .is (.int .u8 a), .is (.agg #[.int .u8 (1 : Nat), .int .u8 a, .int .u8 b9, .int .u8 c9]), .is (.int .i64 z), .is (.pointer (some ⟨b, 0, none⟩)), .is (.pointer (some ⟨b, 1, none⟩)), .is (.pointer (some ⟨b, 1 + a, none⟩))] : List VD).getD ix9 (.is undef)) [some 14, some 15, some 16, some 17, some 18, some 19, some 20, some 21] (by kernel_rfl) (by kernel_rfl) (by kernel_rfl) (by kernel_rfl) rfl (fun ii hii => ?_) ?_
    · match ii, hii with
      | 0, _ => exact mstep_first rfl (mwant_none rfl) 0 (Or.inl rfl) (by kernel_rfl) (fun _ _ => rfl)
      | 1, _ => exact mstep_pure rfl (mwant_none rfl) (fun aa ww cc => ⟨.pointer (some ⟨w.heap.size, 1, none⟩), by have e0 : aa.tmps.getD 3 undef = .pointer (some ⟨w.heap.size, 0, none⟩) := (cc.orig 3 (by kernel_rfl)).trans rfl; simp only [execOp, Act.eval, e0]; go_simp, rfl⟩)
      | 2, _ => exact mstep_pure rfl (mwant_none rfl) (fun aa ww cc => ⟨.int .u8 a, by have e0 : aa.tmps.getD 15 undef = .pointer (some ⟨w.heap.size, 1, none⟩) := cc.slot 1 15 (by kernel_rfl) rfl; obtain ⟨x0, x1, x2, x3⟩ := XB.out _ cc.below; simp only [execOp, Act.eval, e0]; go_simp, rfl⟩)
      | 3, _ => exact mstep_pure rfl (mwant_none rfl) (fun aa ww cc => ⟨.agg #[.int .u8 (1 : Nat), .int .u8 a, .int .u8 b9, .int .u8 c9], by have e0 : aa.tmps.getD 3 undef = .pointer (some ⟨w.heap.size, 0, none⟩) := (cc.orig 3 (by kernel_rfl)).trans rfl; obtain ⟨x0, x1, x2, x3⟩ := XB.out _ cc.below; simp only [execOp, Act.eval, e0]; go_simp, rfl⟩)
      | 4, _ => exact mstep_call rfl (mwant_none rfl) _ _ _ rfl (enters_of Tryd.func30 (by kernel_rfl) rfl) (fun aa ww cc => by have e0 : aa.tmps.getD 17 undef = .agg #[.int .u8 (1 : Nat), .int .u8 a, .int .u8 b9, .int .u8 c9] := cc.slot 3 17 (by kernel_rfl) rfl; simp only [List.map_toArray, List.map_cons, List.map_nil, Act.eval, e0]; exact (NM.out) ww cc.below)
      | 5, _ => exact mstep_pure rfl (mwant_none rfl) (fun aa ww cc => ⟨.pointer (some ⟨b, 0, none⟩), by have e0 : aa.tmps.getD 14 undef = .pointer (some ⟨b, 0, none⟩) := cc.slot 0 14 (by kernel_rfl) rfl; simp only [execOp, Act.eval, e0]; go_simp, rfl⟩)
      | 6, _ => exact mstep_pure rfl (mwant_none rfl) (fun aa ww cc => ⟨.pointer (some ⟨b, 1, none⟩), by have e0 : aa.tmps.getD 19 undef = .pointer (some ⟨b, 0, none⟩) := cc.slot 5 19 (by kernel_rfl) rfl; simp only [execOp, Act.eval, e0]; go_simp, rfl⟩)
      | 7, _ => exact mstep_pure rfl (mwant_none rfl) (fun aa ww cc => ⟨.pointer (some ⟨b, 1 + a, none⟩), by have e0 : aa.tmps.getD 20 undef = .pointer (some ⟨b, 1, none⟩) := cc.slot 6 20 (by kernel_rfl) rfl; have e1 : aa.tmps.getD 16 undef = .int .u8 a := cc.slot 2 16 (by kernel_rfl) rfl; have q := QA.out; have q2 : (a : Int) < 8 := (by omega); simp only [execOp, Act.eval, e0, e1]; go_simp, rfl⟩)
      | n + 8, h => exact absurd h (by show ¬ (n + 8 < 8); omega)
    · intro VV w5 hlen hb5 hok
      match VV, hlen with
      | [v0, v1, v2, v3, v4, v5, v6, v7], _ =>
        obtain rfl : v0 = .pointer (some ⟨b, 0, none⟩) := hok 0 14 rfl
        obtain rfl : v1 = .pointer (some ⟨w.heap.size, 1, none⟩) := hok 1 15 rfl
        obtain rfl : v2 = .int .u8 a := hok 2 16 rfl
        obtain rfl : v3 = .agg #[.int .u8 (1 : Nat), .int .u8 a, .int .u8 b9, .int .u8 c9] := hok 3 17 rfl
        obtain rfl : v4 = .int .i64 z := hok 4 18 rfl
        obtain rfl : v5 = .pointer (some ⟨b, 0, none⟩) := hok 5 19 rfl
        obtain rfl : v6 = .pointer (some ⟨b, 1, none⟩) := hok 6 20 rfl
        obtain rfl : v7 = .pointer (some ⟨b, 1 + a, none⟩) := hok 7 21 rfl
        have HM5 := Lib.hid (HM1.out.below hb5)
        have HF5 : Hid (Fr2 b A w w5) := Lib.hid (HF1.out.trans (Fr2.below hb5))
        clear hok hb5 hlen XB MB HM1 HF1 HBX NM
        simp only [List.zip_cons_cons, List.zip_nil_right, putsL]
        go_simp
        have cR := HM5.out.blk.cell (mcs_reg HM5.out.len QA.out)
        have fR := HM5.out.blk.free (1 + a)
        have HP := Lib.hid (HM5.out.put (1 + a) (.int .i64 z) { m with r := m.r.set a z } (mcs_setReg HM5.out.len QA.out z) (by rw [List.length_set]; exact HM5.out.len) rfl)
        have HFF := Lib.hid (HF5.out.trans (fr2_set w5 b (1 + a) A (.int .i64 z)))
        obtain ⟨old, hold⟩ : ∃ old, w5.cell? ⟨b, 1 + a, none⟩ = some (.int .i64 old) := ⟨_, cR⟩
        clear cR
        go_wp2
        go_end0
        rw [HPL.out]
        exact ⟨rfl, HP.out, HFF.out⟩
  · -- Move
    have QA : Hid (a < 8) := Lib.hid (ha (by omega))
    have QB : Hid (b9 < 8) := Lib.hid (hb (by omega))
    obtain ⟨rb, hrb⟩ : ∃ rb, rb = m.reg b9 := ⟨_, rfl⟩
    have RB9 : Hid (∀ w', Below (w.alloc (.cells #[.int .u8 (2 : Nat), .int .u8 a, .int .u8 b9, .int .u8 c9] 41)).drew.heap.size (w.alloc (.cells #[.int .u8 (2 : Nat), .int .u8 a, .int .u8 b9, .int .u8 c9] 41)).drew w' → w'.cell? ⟨b, 1 + b9, none⟩ = some (.int .i64 rb)) := Lib.hid fun w' hb' => by
      have hm := MB.out w' hb'
      rw [hrb]
      exact hm.blk.cell (mcs_reg hm.len QB.out)
    have HPL : Hid (plainM m ⟨2, a, b9, c9⟩ = { m with r := m.r.set a rb }) := Lib.hid (by rw [hrb]; simp [plainM])
    clear ha hb hc hz hrb
    go_enter Tryd.func35, Tryd.ntmps35
    go_wp2_with fail
    refine region_tails 13 (fun ix9 => ([.is (.pointer (some ⟨b, 0, none⟩)), .is (.pointer (some ⟨w.heap.size, 1, none⟩)), .is (.int .u8 a), .is (.pointer (some ⟨b, 0, none⟩)), .is (.pointer (some ⟨w.heap.size, 2, none⟩)), .is (.int .u8 b9), .is (.pointer (some ⟨b, 0, none⟩)), .is (.pointer (some ⟨b, 1, none⟩)), .is (.pointer (some ⟨b, 1 + b9, none⟩)), .is (.int .i64 rb), .is (.pointer (some ⟨b, 0, none⟩)), .is (.pointer (some ⟨b, 1, none⟩)), .is (.pointer (some ⟨b, 1 + a, none⟩))] : List VD).getD ix9 (.is undef)) [some 22, some 23, some 24, some 25, some 26, some 27, some 28, some 29, some 30, some 31, some 32, some 33, some 34] (by kernel_rfl) (by kernel_rfl) (by kernel_rfl) (by kernel_rfl) rfl (fun ii hii => ?_) ?_
    · match ii, hii with
      | 0, _ => exact mstep_first rfl (mwant_none rfl) 0 (Or.inl rfl) (by kernel_rfl) (fun _ _ => rfl)
      | 1, _ => exact mstep_pure rfl (mwant_none rfl) (fun aa ww cc => ⟨.pointer (some ⟨w.heap.size, 1, none⟩), by have e0 : aa.tmps.getD 3 undef = .pointer (some ⟨w.heap.size, 0, none⟩) := (cc.orig 3 (by kernel_rfl)).trans rfl; simp only [execOp, Act.eval, e0]; go_simp, rfl⟩)
      | 2, _ => exact mstep_pure rfl (mwant_none rfl) (fun aa ww cc => ⟨.int .u8 a, by have e0 : aa.tmps.getD 23 undef = .pointer (some ⟨w.heap.size, 1, none⟩) := cc.slot 1 23 (by kernel_rfl) rfl; obtain ⟨x0, x1, x2, x3⟩ := XB.out _ cc.below; simp only [execOp, Act.eval, e0]; go_simp, rfl⟩)
      | 3, _ => exact mstep_first rfl (mwant_none rfl) 0 (Or.inl rfl) (by kernel_rfl) (fun _ _ => rfl)
      | 4, _ => exact mstep_pure rfl (mwant_none rfl) (fun aa ww cc => ⟨.pointer (some ⟨w.heap.size, 2, none⟩), by have e0 : aa.tmps.getD 3 undef = .pointer (some ⟨w.heap.size, 0, none⟩) := (cc.orig 3 (by kernel_rfl)).trans rfl; simp only [execOp, Act.eval, e0]; go_simp, rfl⟩)
      | 5, _ => exact mstep_pure rfl (mwant_none rfl) (fun aa ww cc => ⟨.int .u8 b9, by have e0 : aa.tmps.getD 26 undef = .pointer (some ⟨w.heap.size, 2, none⟩) := cc.slot 4 26 (by kernel_rfl) rfl; obtain ⟨x0, x1, x2, x3⟩ := XB.out _ cc.below; simp only [execOp, Act.eval, e0]; go_simp, rfl⟩)
      | 6, _ => exact mstep_pure rfl (mwant_none rfl) (fun aa ww cc => ⟨.pointer (some ⟨b, 0, none⟩), by have e0 : aa.tmps.getD 25 undef = .pointer (some ⟨b, 0, none⟩) := cc.slot 3 25 (by kernel_rfl) rfl; simp only [execOp, Act.eval, e0]; go_simp, rfl⟩)
      | 7, _ => exact mstep_pure rfl (mwant_none rfl) (fun aa ww cc => ⟨.pointer (some ⟨b, 1, none⟩), by have e0 : aa.tmps.getD 28 undef = .pointer (some ⟨b, 0, none⟩) := cc.slot 6 28 (by kernel_rfl) rfl; simp only [execOp, Act.eval, e0]; go_simp, rfl⟩)
      | 8, _ => exact mstep_pure rfl (mwant_none rfl) (fun aa ww cc => ⟨.pointer (some ⟨b, 1 + b9, none⟩), by have e0 : aa.tmps.getD 29 undef = .pointer (some ⟨b, 1, none⟩) := cc.slot 7 29 (by kernel_rfl) rfl; have e1 : aa.tmps.getD 27 undef = .int .u8 b9 := cc.slot 5 27 (by kernel_rfl) rfl; have q := QB.out; have q2 : (b9 : Int) < 8 := (by omega); simp only [execOp, Act.eval, e0, e1]; go_simp, rfl⟩)
      | 9, _ => exact mstep_pure rfl (mwant_none rfl) (fun aa ww cc => ⟨.int .i64 rb, by have e0 : aa.tmps.getD 30 undef = .pointer (some ⟨b, 1 + b9, none⟩) := cc.slot 8 30 (by kernel_rfl) rfl; have q := RB9.out _ cc.below; simp only [execOp, Act.eval, e0]; go_simp, rfl⟩)
      | 10, _ => exact mstep_pure rfl (mwant_none rfl) (fun aa ww cc => ⟨.pointer (some ⟨b, 0, none⟩), by have e0 : aa.tmps.getD 22 undef = .pointer (some ⟨b, 0, none⟩) := cc.slot 0 22 (by kernel_rfl) rfl; simp only [execOp, Act.eval, e0]; go_simp, rfl⟩)
      | 11, _ => exact mstep_pure rfl (mwant_none rfl) (fun aa ww cc => ⟨.pointer (some ⟨b, 1, none⟩), by have e0 : aa.tmps.getD 32 undef = .pointer (some ⟨b, 0, none⟩) := cc.slot 10 32 (by kernel_rfl) rfl; simp only [execOp, Act.eval, e0]; go_simp, rfl⟩)
      | 12, _ => exact mstep_pure rfl (mwant_none rfl) (fun aa ww cc => ⟨.pointer (some ⟨b, 1 + a, none⟩), by have e0 : aa.tmps.getD 33 undef = .pointer (some ⟨b, 1, none⟩) := cc.slot 11 33 (by kernel_rfl) rfl; have e1 : aa.tmps.getD 24 undef = .int .u8 a := cc.slot 2 24 (by kernel_rfl) rfl; have q := QA.out; have q2 : (a : Int) < 8 := (by omega); simp only [execOp, Act.eval, e0, e1]; go_simp, rfl⟩)
      | n + 13, h => exact absurd h (by show ¬ (n + 13 < 13); omega)
    · intro VV w5 hlen hb5 hok
      match VV, hlen with
      | [v0, v1, v2, v3, v4, v5, v6, v7, v8, v9, v10, v11, v12], _ =>
        obtain rfl : v0 = .pointer (some ⟨b, 0, none⟩) := hok 0 22 rfl
        obtain rfl : v1 = .pointer (some ⟨w.heap.size, 1, none⟩) := hok 1 23 rfl
        obtain rfl : v2 = .int .u8 a := hok 2 24 rfl
        obtain rfl : v3 = .pointer (some ⟨b, 0, none⟩) := hok 3 25 rfl
        obtain rfl : v4 = .pointer (some ⟨w.heap.size, 2, none⟩) := hok 4 26 rfl
        obtain rfl : v5 = .int .u8 b9 := hok 5 27 rfl
        obtain rfl : v6 = .pointer (some ⟨b, 0, none⟩) := hok 6 28 rfl
        obtain rfl : v7 = .pointer (some ⟨b, 1, none⟩) := hok 7 29 rfl
        obtain rfl : v8 = .pointer (some ⟨b, 1 + b9, none⟩) := hok 8 30 rfl
        obtain rfl : v9 = .int .i64 rb := hok 9 31 rfl
        obtain rfl : v10 = .pointer (some ⟨b, 0, none⟩) := hok 10 32 rfl
        obtain rfl : v11 = .pointer (some ⟨b, 1, none⟩) := hok 11 33 rfl
        obtain rfl : v12 = .pointer (some ⟨b, 1 + a, none⟩) := hok 12 34 rfl
        have HM5 := Lib.hid (HM1.out.below hb5)
        have HF5 : Hid (Fr2 b A w w5) := Lib.hid (HF1.out.trans (Fr2.below hb5))
        clear hok hb5 hlen XB MB HM1 HF1 HBX RB9
        simp only [List.zip_cons_cons, List.zip_nil_right, putsL]
        go_simp
        have cR := HM5.out.blk.cell (mcs_reg HM5.out.len QA.out)
        have fR := HM5.out.blk.free (1 + a)
        have HP := Lib.hid (HM5.out.put (1 + a) (.int .i64 rb) { m with r := m.r.set a rb } (mcs_setReg HM5.out.len QA.out rb) (by rw [List.length_set]; exact HM5.out.len) rfl)
        have HFF := Lib.hid (HF5.out.trans (fr2_set w5 b (1 + a) A (.int .i64 rb)))
        obtain ⟨old, hold⟩ : ∃ old, w5.cell? ⟨b, 1 + a, none⟩ = some (.int .i64 old) := ⟨_, cR⟩
        clear cR
        go_wp2
        go_end0
        rw [HPL.out]
        exact ⟨rfl, HP.out, HFF.out⟩
  · -- Zero
    have QA : Hid (a < 8) := Lib.hid (ha (by omega))
    have hq : a < 8 := QA.out
    have hqz : (a : Int) < 8 := by omega
    have cR : (w.alloc (.cells #[.int .u8 (16 : Nat), .int .u8 a, .int .u8 b9, .int .u8 c9] 41)).cell? ⟨b, 1 + a, none⟩ = some (.int .i64 (m.reg a)) := HM1.out.blk.cell (mcs_reg HM1.out.len QA.out)
    have cR0 : w.cell? ⟨b, 1 + a, none⟩ = some (.int .i64 (m.reg a)) := HM.out.blk.cell (mcs_reg HM.out.len QA.out)
    obtain ⟨ra, hra⟩ : ∃ ra, ra = m.reg a := ⟨_, rfl⟩
    rw [← hra] at cR cR0
    clear cR
    by_cases h0 : ra = 0
    · have HPL : Hid (plainM m ⟨16, a, b9, c9⟩ = { m with place := num ⟨16, a, b9, c9⟩ }) := Lib.hid (by have : m.reg a = 0 := by rw [← hra]; exact h0
                                                                                                         simp [plainM, this])
      subst h0
      clear ha hb hc hz hra MB XB
      go_enter Tryd.func35, Tryd.ntmps35
      go_wp2_with fail
      go_quiet (fail)
      go_wp2_with fail
      refine (number_calls' _ ⟨16, a, b9, c9⟩ HI.out).mono ?_
      rintro e w5 ⟨rfl, hq5⟩
      have HM5 := Lib.hid (MM.below (MM.drewN HM1.out nq) hq5)
      have HF5 : Hid (Fr2 b A w w5) := Lib.hid ((HF1.out.drewN nq).trans (Fr2.below hq5))
      clear hq5 HM1 HF1 HBX HM
      have cP : w5.cell? ⟨b, 0, none⟩ = some (.int .i64 m.place) := HM5.out.blk.cell rfl
      have fP := HM5.out.blk.free 0
      obtain ⟨z, hz⟩ : ∃ z, z = num ⟨16, a, b9, c9⟩ := ⟨_, rfl⟩
      rw [← hz] at HPL ⊢
      have HP := Lib.hid (HM5.out.put 0 (.int .i64 z) { m with place := z } (mcs_setPlace z) HM5.out.len rfl)
      have HFF := Lib.hid (HF5.out.trans (fr2_set w5 b 0 A (.int .i64 z)))
      clear hz
      go_wp2
      go_end0
      rw [HPL.out]
      exact ⟨rfl, HP.out, HFF.out⟩
    · have HPL : Hid (plainM m ⟨16, a, b9, c9⟩ = m) := Lib.hid (by have : m.reg a ≠ 0 := by rw [← hra]; exact h0
                                                                   simp [plainM, this])
      have h0b : (ra != 0) = true := by simpa using h0
      clear ha hb hc hz hra h0 MB XB
      go_enter Tryd.func35, Tryd.ntmps35
      go_wp2_with fail
      go_quiet (fail)
      go_wp2
      go_end0
      rw [HPL.out]
      exact ⟨rfl, ⟨HM1.out.blk, HM1.out.len, HM1.out.own, HM1.out.ne⟩, HF1.out.drewN _⟩
  · -- Jump
    have HPL : Hid (plainM m ⟨15, a, b9, c9⟩ = { m with place := num ⟨15, a, b9, c9⟩ }) := Lib.hid (by simp [plainM])
    clear ha hb hc hz MB XB
    go_enter Tryd.func35, Tryd.ntmps35
    go_wp2_with fail
    refine (number_calls' _ ⟨15, a, b9, c9⟩ HI.out).mono ?_
    rintro e w5 ⟨rfl, hq5⟩
    have HM5 := Lib.hid (MM.below HM1.out hq5)
    have HF5 : Hid (Fr2 b A w w5) := Lib.hid (HF1.out.trans (Fr2.below hq5))
    clear hq5 HM1 HF1 HBX HM
    have cP : w5.cell? ⟨b, 0, none⟩ = some (.int .i64 m.place) := HM5.out.blk.cell rfl
    have fP := HM5.out.blk.free 0
    obtain ⟨z, hz⟩ : ∃ z, z = num ⟨15, a, b9, c9⟩ := ⟨_, rfl⟩
    rw [← hz] at HPL ⊢
    have HP := Lib.hid (HM5.out.put 0 (.int .i64 z) { m with place := z } (mcs_setPlace z) HM5.out.len rfl)
    have HFF := Lib.hid (HF5.out.trans (fr2_set w5 b 0 A (.int .i64 z)))
    clear hz
    go_wp2
    go_end0
    rw [HPL.out]
    exact ⟨rfl, HP.out, HFF.out⟩
  · -- three registers
    have QA : Hid (a < 8) := Lib.hid (ha (by omega))
    have QB : Hid (b9 < 8) := Lib.hid (hb (by omega))
    have QC : Hid (c9 < 8) := Lib.hid (hc (by omega))
    obtain ⟨rb, hrb⟩ : ∃ rb, rb = m.reg b9 := ⟨_, rfl⟩
    obtain ⟨rc, hrc⟩ : ∃ rc, rc = m.reg c9 := ⟨_, rfl⟩
    obtain ⟨z, hzz⟩ : ∃ z, z = res op rb rc := ⟨_, rfl⟩
    have RB9 : Hid (∀ w', Below (w.alloc (.cells #[.int .u8 op, .int .u8 a, .int .u8 b9, .int .u8 c9] 41)).drew.heap.size (w.alloc (.cells #[.int .u8 op, .int .u8 a, .int .u8 b9, .int .u8 c9] 41)).drew w' → w'.cell? ⟨b, 1 + b9, none⟩ = some (.int .i64 rb)) := Lib.hid fun w' hb' => by
      have hm := MB.out w' hb'
      rw [hrb]
      exact hm.blk.cell (mcs_reg hm.len QB.out)
    have RC9 : Hid (∀ w', Below (w.alloc (.cells #[.int .u8 op, .int .u8 a, .int .u8 b9, .int .u8 c9] 41)).drew.heap.size (w.alloc (.cells #[.int .u8 op, .int .u8 a, .int .u8 b9, .int .u8 c9] 41)).drew w' → w'.cell? ⟨b, 1 + c9, none⟩ = some (.int .i64 rc)) := Lib.hid fun w' hb' => by
      have hm := MB.out w' hb'
      rw [hrc]
      exact hm.blk.cell (mcs_reg hm.len QC.out)
    have RS : Hid (∀ w', Below (w.alloc (.cells #[.int .u8 op, .int .u8 a, .int .u8 b9, .int .u8 c9] 41)).drew.heap.size (w.alloc (.cells #[.int .u8 op, .int .u8 a, .int .u8 b9, .int .u8 c9] 41)).drew w' → Calls Tryd.prog 41 #[.int .u8 op, .int .i64 rb, .int .i64 rc] w' fun e w'' => ∃ v, e = .returned v ∧ v = .int .i64 z ∧ Below w'.heap.size w' w'') := Lib.hid fun w' _ => by
      refine (result_calls w' op rb rc ho (fun h => by rw [hrc]; exact hz h)).mono ?_
      rintro e w'' ⟨rfl, rfl⟩
      exact ⟨_, rfl, by rw [hzz], Below.refl _ _⟩
    have HPL : Hid (plainM m ⟨op, a, b9, c9⟩ = { m with r := m.r.set a z }) := Lib.hid (by
      unfold plainM
      rw [if_neg (by show ¬ op = 1; omega), if_neg (by show ¬ op = 2; omega), if_neg (by show ¬ op = 16; omega), if_neg (by show ¬ op = 15; omega), hzz, hrb, hrc])
    have e1 : ((op : Int) == 1) = false := by simp; omega
    have e2 : ((op : Int) == 2) = false := by simp; omega
    have e3 : ((op : Int) == 16) = false := by simp; omega
    have e4 : ((op : Int) == 15) = false := by simp; omega
    clear ha hb hc hz hrb hrc hzz ho
    go_enter Tryd.func35, Tryd.ntmps35
    go_wp2_with fail
    refine region_tails 23 (fun ix9 => ([.is (.pointer (some ⟨b, 0, none⟩)), .is (.pointer (some ⟨w.heap.size, 1, none⟩)), .is (.int .u8 a), .is (.pointer (some ⟨w.heap.size, 0, none⟩)), .is (.int .u8 op), .is (.pointer (some ⟨b, 0, none⟩)), .is (.pointer (some ⟨w.heap.size, 2, none⟩)), .is (.int .u8 b9), .is (.pointer (some ⟨b, 0, none⟩)), .is (.pointer (some ⟨b, 1, none⟩)), .is (.pointer (some ⟨b, 1 + b9, none⟩)), .is (.int .i64 rb), .is (.pointer (some ⟨b, 0, none⟩)), .is (.pointer (some ⟨w.heap.size, 3, none⟩)), .is (.int .u8 c9), .is (.pointer (some ⟨b, 0, none⟩)), .is (.pointer (some ⟨b, 1, none⟩)), .is (.pointer (some ⟨b, 1 + c9, none⟩)), .is (.int .i64 rc), .is (.int .i64 z), .is (.pointer (some ⟨b, 0, none⟩)), .is (.pointer (some ⟨b, 1, none⟩)), .is (.pointer (some ⟨b, 1 + a, none⟩))] : List VD).getD ix9 (.is undef)) [some 48, some 49, some 50, some 51, some 52, some 53, some 54, some 55, some 56, some 57, some 58, some 59, some 60, some 61, some 62, some 63, some 64, some 65, some 66, some 67, some 68, some 69, some 70] (by kernel_rfl) (by kernel_rfl) (by kernel_rfl) (by kernel_rfl) rfl (fun ii hii => ?_) ?_
    · match ii, hii with
      | 0, _ => exact mstep_first rfl (mwant_none rfl) 0 (Or.inl rfl) (by kernel_rfl) (fun _ _ => rfl)
      | 1, _ => exact mstep_pure rfl (mwant_none rfl) (fun aa ww cc => ⟨.pointer (some ⟨w.heap.size, 1, none⟩), by have e0 : aa.tmps.getD 3 undef = .pointer (some ⟨w.heap.size, 0, none⟩) := (cc.orig 3 (by kernel_rfl)).trans rfl; simp only [execOp, Act.eval, e0]; go_simp, rfl⟩)
      | 2, _ => exact mstep_pure rfl (mwant_none rfl) (fun aa ww cc => ⟨.int .u8 a, by have e0 : aa.tmps.getD 49 undef = .pointer (some ⟨w.heap.size, 1, none⟩) := cc.slot 1 49 (by kernel_rfl) rfl; obtain ⟨x0, x1, x2, x3⟩ := XB.out _ cc.below; simp only [execOp, Act.eval, e0]; go_simp, rfl⟩)
      | 3, _ => exact mstep_pure rfl (mwant_none rfl) (fun aa ww cc => ⟨.pointer (some ⟨w.heap.size, 0, none⟩), by have e0 : aa.tmps.getD 3 undef = .pointer (some ⟨w.heap.size, 0, none⟩) := (cc.orig 3 (by kernel_rfl)).trans rfl; simp only [execOp, Act.eval, e0]; go_simp, rfl⟩)
      | 4, _ => exact mstep_pure rfl (mwant_none rfl) (fun aa ww cc => ⟨.int .u8 op, by have e0 : aa.tmps.getD 51 undef = .pointer (some ⟨w.heap.size, 0, none⟩) := cc.slot 3 51 (by kernel_rfl) rfl; obtain ⟨x0, x1, x2, x3⟩ := XB.out _ cc.below; simp only [execOp, Act.eval, e0]; go_simp, rfl⟩)
      | 5, _ => exact mstep_first rfl (mwant_none rfl) 0 (Or.inl rfl) (by kernel_rfl) (fun _ _ => rfl)
      | 6, _ => exact mstep_pure rfl (mwant_none rfl) (fun aa ww cc => ⟨.pointer (some ⟨w.heap.size, 2, none⟩), by have e0 : aa.tmps.getD 3 undef = .pointer (some ⟨w.heap.size, 0, none⟩) := (cc.orig 3 (by kernel_rfl)).trans rfl; simp only [execOp, Act.eval, e0]; go_simp, rfl⟩)
      | 7, _ => exact mstep_pure rfl (mwant_none rfl) (fun aa ww cc => ⟨.int .u8 b9, by have e0 : aa.tmps.getD 54 undef = .pointer (some ⟨w.heap.size, 2, none⟩) := cc.slot 6 54 (by kernel_rfl) rfl; obtain ⟨x0, x1, x2, x3⟩ := XB.out _ cc.below; simp only [execOp, Act.eval, e0]; go_simp, rfl⟩)
      | 8, _ => exact mstep_pure rfl (mwant_none rfl) (fun aa ww cc => ⟨.pointer (some ⟨b, 0, none⟩), by have e0 : aa.tmps.getD 53 undef = .pointer (some ⟨b, 0, none⟩) := cc.slot 5 53 (by kernel_rfl) rfl; simp only [execOp, Act.eval, e0]; go_simp, rfl⟩)
      | 9, _ => exact mstep_pure rfl (mwant_none rfl) (fun aa ww cc => ⟨.pointer (some ⟨b, 1, none⟩), by have e0 : aa.tmps.getD 56 undef = .pointer (some ⟨b, 0, none⟩) := cc.slot 8 56 (by kernel_rfl) rfl; simp only [execOp, Act.eval, e0]; go_simp, rfl⟩)
      | 10, _ => exact mstep_pure rfl (mwant_none rfl) (fun aa ww cc => ⟨.pointer (some ⟨b, 1 + b9, none⟩), by have e0 : aa.tmps.getD 57 undef = .pointer (some ⟨b, 1, none⟩) := cc.slot 9 57 (by kernel_rfl) rfl; have e1 : aa.tmps.getD 55 undef = .int .u8 b9 := cc.slot 7 55 (by kernel_rfl) rfl; have q := QB.out; have q2 : (b9 : Int) < 8 := (by omega); simp only [execOp, Act.eval, e0, e1]; go_simp, rfl⟩)
      | 11, _ => exact mstep_pure rfl (mwant_none rfl) (fun aa ww cc => ⟨.int .i64 rb, by have e0 : aa.tmps.getD 58 undef = .pointer (some ⟨b, 1 + b9, none⟩) := cc.slot 10 58 (by kernel_rfl) rfl; have q := RB9.out _ cc.below; simp only [execOp, Act.eval, e0]; go_simp, rfl⟩)
      | 12, _ => exact mstep_first rfl (mwant_none rfl) 0 (Or.inl rfl) (by kernel_rfl) (fun _ _ => rfl)
      | 13, _ => exact mstep_pure rfl (mwant_none rfl) (fun aa ww cc => ⟨.pointer (some ⟨w.heap.size, 3, none⟩), by have e0 : aa.tmps.getD 3 undef = .pointer (some ⟨w.heap.size, 0, none⟩) := (cc.orig 3 (by kernel_rfl)).trans rfl; simp only [execOp, Act.eval, e0]; go_simp, rfl⟩)
      | 14, _ => exact mstep_pure rfl (mwant_none rfl) (fun aa ww cc => ⟨.int .u8 c9, by have e0 : aa.tmps.getD 61 undef = .pointer (some ⟨w.heap.size, 3, none⟩) := cc.slot 13 61 (by kernel_rfl) rfl; obtain ⟨x0, x1, x2, x3⟩ := XB.out _ cc.below; simp only [execOp, Act.eval, e0]; go_simp, rfl⟩)
      | 15, _ => exact mstep_pure rfl (mwant_none rfl) (fun aa ww cc => ⟨.pointer (some ⟨b, 0, none⟩), by have e0 : aa.tmps.getD 60 undef = .pointer (some ⟨b, 0, none⟩) := cc.slot 12 60 (by kernel_rfl) rfl; simp only [execOp, Act.eval, e0]; go_simp, rfl⟩)
      | 16, _ => exact mstep_pure rfl (mwant_none rfl) (fun aa ww cc => ⟨.pointer (some ⟨b, 1, none⟩), by have e0 : aa.tmps.getD 63 undef = .pointer (some ⟨b, 0, none⟩) := cc.slot 15 63 (by kernel_rfl) rfl; simp only [execOp, Act.eval, e0]; go_simp, rfl⟩)
      | 17, _ => exact mstep_pure rfl (mwant_none rfl) (fun aa ww cc => ⟨.pointer (some ⟨b, 1 + c9, none⟩), by have e0 : aa.tmps.getD 64 undef = .pointer (some ⟨b, 1, none⟩) := cc.slot 16 64 (by kernel_rfl) rfl; have e1 : aa.tmps.getD 62 undef = .int .u8 c9 := cc.slot 14 62 (by kernel_rfl) rfl; have q := QC.out; have q2 : (c9 : Int) < 8 := (by omega); simp only [execOp, Act.eval, e0, e1]; go_simp, rfl⟩)
      | 18, _ => exact mstep_pure rfl (mwant_none rfl) (fun aa ww cc => ⟨.int .i64 rc, by have e0 : aa.tmps.getD 65 undef = .pointer (some ⟨b, 1 + c9, none⟩) := cc.slot 17 65 (by kernel_rfl) rfl; have q := RC9.out _ cc.below; simp only [execOp, Act.eval, e0]; go_simp, rfl⟩)
      | 19, _ => exact mstep_call rfl (mwant_none rfl) _ _ _ rfl (enters_of Tryd.func41 (by kernel_rfl) rfl) (fun aa ww cc => by have e0 : aa.tmps.getD 52 undef = .int .u8 op := cc.slot 4 52 (by kernel_rfl) rfl; have e1 : aa.tmps.getD 59 undef = .int .i64 rb := cc.slot 11 59 (by kernel_rfl) rfl; have e2 : aa.tmps.getD 66 undef = .int .i64 rc := cc.slot 18 66 (by kernel_rfl) rfl; simp only [List.map_toArray, List.map_cons, List.map_nil, Act.eval, e0, e1, e2]; exact (RS.out) ww cc.below)
      | 20, _ => exact mstep_pure rfl (mwant_none rfl) (fun aa ww cc => ⟨.pointer (some ⟨b, 0, none⟩), by have e0 : aa.tmps.getD 48 undef = .pointer (some ⟨b, 0, none⟩) := cc.slot 0 48 (by kernel_rfl) rfl; simp only [execOp, Act.eval, e0]; go_simp, rfl⟩)
      | 21, _ => exact mstep_pure rfl (mwant_none rfl) (fun aa ww cc => ⟨.pointer (some ⟨b, 1, none⟩), by have e0 : aa.tmps.getD 68 undef = .pointer (some ⟨b, 0, none⟩) := cc.slot 20 68 (by kernel_rfl) rfl; simp only [execOp, Act.eval, e0]; go_simp, rfl⟩)
      | 22, _ => exact mstep_pure rfl (mwant_none rfl) (fun aa ww cc => ⟨.pointer (some ⟨b, 1 + a, none⟩), by have e0 : aa.tmps.getD 69 undef = .pointer (some ⟨b, 1, none⟩) := cc.slot 21 69 (by kernel_rfl) rfl; have e1 : aa.tmps.getD 50 undef = .int .u8 a := cc.slot 2 50 (by kernel_rfl) rfl; have q := QA.out; have q2 : (a : Int) < 8 := (by omega); simp only [execOp, Act.eval, e0, e1]; go_simp, rfl⟩)
      | n + 23, h => exact absurd h (by show ¬ (n + 23 < 23); omega)
    · intro VV w5 hlen hb5 hok
      match VV, hlen with
      | [v0, v1, v2, v3, v4, v5, v6, v7, v8, v9, v10, v11, v12, v13, v14, v15, v16, v17, v18, v19, v20, v21, v22], _ =>
        obtain rfl : v0 = .pointer (some ⟨b, 0, none⟩) := hok 0 48 rfl
        obtain rfl : v1 = .pointer (some ⟨w.heap.size, 1, none⟩) := hok 1 49 rfl
        obtain rfl : v2 = .int .u8 a := hok 2 50 rfl
        obtain rfl : v3 = .pointer (some ⟨w.heap.size, 0, none⟩) := hok 3 51 rfl
        obtain rfl : v4 = .int .u8 op := hok 4 52 rfl
        obtain rfl : v5 = .pointer (some ⟨b, 0, none⟩) := hok 5 53 rfl
        obtain rfl : v6 = .pointer (some ⟨w.heap.size, 2, none⟩) := hok 6 54 rfl
        obtain rfl : v7 = .int .u8 b9 := hok 7 55 rfl
        obtain rfl : v8 = .pointer (some ⟨b, 0, none⟩) := hok 8 56 rfl
        obtain rfl : v9 = .pointer (some ⟨b, 1, none⟩) := hok 9 57 rfl
        obtain rfl : v10 = .pointer (some ⟨b, 1 + b9, none⟩) := hok 10 58 rfl
        obtain rfl : v11 = .int .i64 rb := hok 11 59 rfl
        obtain rfl : v12 = .pointer (some ⟨b, 0, none⟩) := hok 12 60 rfl
        obtain rfl : v13 = .pointer (some ⟨w.heap.size, 3, none⟩) := hok 13 61 rfl
        obtain rfl : v14 = .int .u8 c9 := hok 14 62 rfl
        obtain rfl : v15 = .pointer (some ⟨b, 0, none⟩) := hok 15 63 rfl
        obtain rfl : v16 = .pointer (some ⟨b, 1, none⟩) := hok 16 64 rfl
        obtain rfl : v17 = .pointer (some ⟨b, 1 + c9, none⟩) := hok 17 65 rfl
        obtain rfl : v18 = .int .i64 rc := hok 18 66 rfl
        obtain rfl : v19 = .int .i64 z := hok 19 67 rfl
        obtain rfl : v20 = .pointer (some ⟨b, 0, none⟩) := hok 20 68 rfl
        obtain rfl : v21 = .pointer (some ⟨b, 1, none⟩) := hok 21 69 rfl
        obtain rfl : v22 = .pointer (some ⟨b, 1 + a, none⟩) := hok 22 70 rfl
        have HM5 := Lib.hid (HM1.out.below hb5)
        have HF5 : Hid (Fr2 b A w w5) := Lib.hid (HF1.out.trans (Fr2.below hb5))
        clear hok hb5 hlen XB MB HM1 HF1 HBX RB9 RC9 RS
        simp only [List.zip_cons_cons, List.zip_nil_right, putsL]
        go_simp
        have cR := HM5.out.blk.cell (mcs_reg HM5.out.len QA.out)
        have fR := HM5.out.blk.free (1 + a)
        have HP := Lib.hid (HM5.out.put (1 + a) (.int .i64 z) { m with r := m.r.set a z } (mcs_setReg HM5.out.len QA.out z) (by rw [List.length_set]; exact HM5.out.len) rfl)
        have HFF := Lib.hid (HF5.out.trans (fr2_set w5 b (1 + a) A (.int .i64 z)))
        obtain ⟨old, hold⟩ : ∃ old, w5.cell? ⟨b, 1 + a, none⟩ = some (.int .i64 old) := ⟨_, cR⟩
        clear cR
        go_wp2
        go_end0
        rw [HPL.out]
        exact ⟨rfl, HP.out, HFF.out⟩
end Go.Proofs.YtlecpekgnlaneaaDoor
