/- The document's answers on tables: Check, Places, Turn. -/
import Derived.Test.YthdipdbmikkplaaDoorTabNext
import Derived.Test.YthdipdbmikkplaaDoorMonoV
import Derived.Test.YthdipdbmikkplaaDoorOwnI
namespace Go.Proofs.YthdipdbmikkplaaDoor
open Go.RowKit Nac Nac.Table
/-- the number and the place that a check comes to -/
def codeOf : Option (Nat × Nat) → Nat × Nat
  | none => (0, 0)
  | some x => x
def RetRC (w : World) (R : Option (Nat × Nat)) (e : Ending) (w' : World) : Prop := e = .returned (.tuple #[.int .i64 ((codeOf R).1 : Int), .int .i64 ((codeOf R).2 : Int)]) ∧ Below w.heap.size w w'
set_option maxHeartbeats 4000000 in
set_option maxRecDepth 100000 in
theorem rcheck_calls (w : World) (T : Int) (hT : I64 T) (A : Option Addr) (c : Nat) (ws : List Win) (hA : RW w w.heap.size A ws) (h8 : ws.length ≤ 140737488351232) :
    Calls Tryd.prog 6 #[.agg #[.int .i64 T, .slice A ws.length c]] w (RetRC w (check T ws)) := by
  have hT1 := hT.lo
  have hT2 := hT.hi
  by_cases h0 : T < 1 ∨ 256 < T ∨ 32 < ws.length
  · have hck : check T ws = some (1, 0) := by unfold check; rw [if_pos h0]
    have HC := Lib.hid hck; clear hck
    have h1 : T < 1 ∨ (1 ≤ T ∧ 256 < T) ∨ (1 ≤ T ∧ T ≤ 256 ∧ 32 < ws.length) := by omega
    clear h0
    rcases h1 with h1 | ⟨h1, h2⟩ | ⟨h1, h2, h3⟩
    all_goals
      go_enter Tryd.func6, Tryd.ntmps6
      go_wp2
      go_ret2
      unfold RetRC
      rw [HC.out]
      exact ⟨rfl, (Below.refl _ _).alloc (Nat.le_refl _) _⟩
  · have hck : check T ws = chk T ws 0 0 := by unfold check; rw [if_neg h0]
    rw [hck]
    clear hck
    obtain ⟨R, hR⟩ : ∃ R, Hid (R = chk T ws 0 0) := ⟨_, rfl⟩
    rw [← hR.out]
    have h1 : 1 ≤ T := by omega
    have h2 : T ≤ 256 := by omega
    have h3 : ws.length ≤ 32 := by omega
    clear h0
    go_enter Tryd.func6, Tryd.ntmps6
    go_wp2_with fail
    go_loopw [4] (fun s4 wr => ∃ (k : Nat) (e : Int), k ≤ ws.length ∧ s4 = .int .i64 k ∧ 0 ≤ e ∧ e ≤ 256 ∧ (k = 0 → e = 0) ∧ Hid (∀ j (h : j < ws.length), k = j + 1 → e = ws[j].start + ws[j].ticks ∧ 0 ≤ ws[j].start ∧ 1 ≤ ws[j].ticks) ∧ Hid (R = chk T (ws.drop k) e k) ∧ Below w.heap.size w wr ∧ Box wr w.heap.size [.int .i64 T, .slice A ws.length c]) (fun s4 _ => 40 - (intOf s4).toNat)
    case atStart => exact ⟨0, 0, by omega, rfl, by omega, by omega, fun _ => rfl, fun j h hh => absurd hh (by omega), hR, (Below.refl _ _).alloc (Nat.le_refl _) _, Box.new w _ _⟩
    case round =>
      clear hR
      obtain ⟨k, e, hk, rfl, he0, he1, hk0, HE, HR, hbel, hbox⟩ := hrel
      by_cases hkl : k < ws.length
      · obtain ⟨b, o, rfl, hb, c0, c1, c2, hw⟩ := (hA.below hbel).get hkl
        have hst := chk_step T ws e k hkl
        have hst' : Hid (R = _) := HR.out.trans hst
        clear hst HR
        obtain ⟨⟨p, s, t⟩, hx⟩ : ∃ x, x = ws[k] := ⟨_, rfl⟩
        rw [← hx] at c0 c1 c2 hw hst'
        have HX0 := Lib.hid hx
        clear hx
        simp only at c0 c1 c2
        have hp1 := hw.p.lo
        have hp2 := hw.p.hi
        have hs1 := hw.s.lo
        have hs2 := hw.s.hi
        have ht1 := hw.t.lo
        have ht2 := hw.t.hi
        simp only at hp1 hp2 hs1 hs2 ht1 ht2
        clear hw
        have m0 : wr.cell? ⟨w.heap.size, 0, none⟩ = some (.int .i64 T) := hbox.cell rfl
        have m1 : wr.cell? ⟨w.heap.size, 1, none⟩ = some (.slice (some ⟨b, o, none⟩) ws.length c) := hbox.cell rfl
        have hbs := hbox.lt
        have hnew : ∀ o, Below w.heap.size w (wr.alloc o) := fun o => hbel.alloc hbel.size o
        have hbox2 : ∀ o', Box (wr.alloc o') w.heap.size [.int .i64 T, .slice (some ⟨b, o, none⟩) ws.length c] := fun o' => hbox.below ((Below.refl (w.heap.size + 1) wr).alloc (by omega) o') (by omega)
        have HN := Lib.hid hnew
        have HX := Lib.hid hbox2
        by_cases h4 : p < 0 ∨ 8 ≤ p ∨ t < 1
        · have hRk : Hid (R = some (1, k)) := by rw [hst'.out]; exact if_pos h4
          clear hst' hbel hbox hnew hbox2 HE hk0
          have h5 : p < 0 ∨ (0 ≤ p ∧ 8 ≤ p) ∨ (0 ≤ p ∧ p < 8 ∧ t < 1) := by omega
          clear h4
          rcases h5 with h5 | ⟨h5, h6⟩ | ⟨h5, h6, h7⟩
          all_goals
            go_wp2
            go_ret2
            unfold RetRC
            rw [hRk.out]
            exact ⟨rfl, HN.out _⟩
        · obtain ⟨h5, h6, h7⟩ : 0 ≤ p ∧ p < 8 ∧ 1 ≤ t := by omega
          by_cases h8' : s < 0 ∨ T - t < s
          · have hRk : Hid (R = some (4, k)) := by rw [hst'.out]; exact (if_neg h4).trans (if_pos h8')
            clear hst' h4 hbel hbox hnew hbox2 HE hk0
            have h5 : s < 0 ∨ (0 ≤ s ∧ 255 < s) ∨ (0 ≤ s ∧ s ≤ 255 ∧ 256 < t) ∨ (0 ≤ s ∧ s ≤ 255 ∧ t ≤ 256 ∧ T ≤ s + t - 1) := by omega
            clear h8'
            rcases h5 with h5 | ⟨h5, h6⟩ | ⟨h5, h6, h7⟩ | ⟨h5, h6, h7, h9⟩
            all_goals
              go_wp2
              go_ret2
              unfold RetRC
              rw [hRk.out]
              exact ⟨rfl, HN.out _⟩
          · obtain ⟨h9, h10⟩ : 0 ≤ s ∧ s ≤ T - t := by omega
            have h13 : s ≤ 255 := by omega
            have h14 : t ≤ 256 := by omega
            have h15 : s + t - 1 < T := by omega
            have HE2 : Hid (∀ j (h : j < ws.length), k + 1 = j + 1 → s + t = ws[j].start + ws[j].ticks ∧ 0 ≤ ws[j].start ∧ 1 ≤ ws[j].ticks) := by
              intro j hj hkj
              obtain rfl : k = j := by omega
              rw [← HX0.out]
              exact ⟨rfl, h9, h7⟩
            by_cases hk00 : k = 0
            · have he00 := hk0 hk00
              have hRk : Hid (R = chk T (ws.drop (k + 1)) (s + t) (k + 1)) := by rw [hst'.out]; exact (if_neg h4).trans ((if_neg h8').trans (if_neg (show ¬ s < e by omega)))
              have q3 : decide (0 < (k : Int)) = false := decide_eq_false (by omega)
              have q3' : decide (0 < k) = false := decide_eq_false (by omega)
              clear hst' h4 h8' hbel hbox hnew hbox2 HE hk0 HX0 he00 hk00
              go_wp2_with fail
              go_quiet (fail)
              go_wp2
              go_roundw
              case rel => exact ⟨k + 1, s + t, by omega, by go_num, by omega, by omega, fun h => absurd h (by omega), HE2, hRk, below_drewN (HN.out _) _, HX.out _⟩
              case measure => simp [intOf]; omega
            · obtain ⟨j, hj⟩ : ∃ j, k = j + 1 := ⟨k - 1, by omega⟩
              have hjl : j < ws.length := by omega
              obtain ⟨b', o', e2, _, d0, d1, d2, hw2⟩ := (hA.below hbel).get hjl
              obtain ⟨rfl, rfl⟩ : b = b' ∧ o = o' := by injection e2 with e2; injection e2 with h1 h2; exact ⟨h1, h2⟩
              obtain ⟨g1, g2, g3⟩ := HE.out j hjl hj
              obtain ⟨⟨p', s', t'⟩, hx'⟩ : ∃ x, x = ws[j] := ⟨_, rfl⟩
              rw [← hx'] at d0 d1 d2 hw2 g1 g2 g3
              simp only at d0 d1 d2 g1 g2 g3
              clear hx' hw2 e2 hk0 HE hk00 HX0 d0
              have Q1 : Hid ((k : Int) - 1 = (j : Int)) := by show _ = _; omega
              have Q1' : Hid (IntKind.i64.wrap (j : Int) = (j : Int)) := by show _ = _; rw [IntKind.wrap_i64]; omega
              have Q2 : Hid (IntKind.i64.wrap (s' + t') = s' + t') := by show _ = _; rw [IntKind.wrap_i64]; omega
              have Q3 : Hid ((0 : Int) < (k : Int)) := by show (0 : Int) < _; omega
              have Q3' : Hid (0 < k) := by show 0 < k; omega
              have QJ := Lib.hid hjl
              by_cases h11 : s < e
              · have hRk : Hid (R = some (3, k)) := by rw [hst'.out]; exact (if_neg h4).trans ((if_neg h8').trans (if_pos h11))
                have Q5 : Hid (s < s' + t') := by show s < s' + t'; omega
                clear g1 hst' h4 h8' hbel hbox hnew hbox2 hj hjl g2 g3 h11
                go_wp2_with fail
                obtain ⟨W1, hW1⟩ : ∃ W1, W1 = wr.alloc (.cells #[.int .i64 p, .int .i64 s, .int .i64 t] 39) := ⟨_, rfl⟩
                have HN1 : Hid (Below w.heap.size w W1) := by rw [hW1]; exact HN.out _
                have HX1 : Hid (Box W1 w.heap.size [.int .i64 T, .slice (some ⟨b, o, none⟩) ws.length c]) := by rw [hW1]; exact HX.out _
                have hsz1 : W1.heap.size = wr.heap.size + 1 := by rw [hW1]; simp
                have hbw : Below wr.heap.size wr W1 := by rw [hW1]; exact (Below.refl _ _).alloc (Nat.le_refl _) _
                have hnb : Box W1 wr.heap.size [.int .i64 p, .int .i64 s, .int .i64 t] := by rw [hW1]; exact Box.new wr _ _
                have hbwr : b < wr.heap.size := Nat.lt_of_lt_of_le hb (Nat.le_of_lt hbs)
                have MS : Hid (∀ w', Below (wr.heap.size + 1) W1 w' → w'.cell? ⟨wr.heap.size, 1, none⟩ = some (.int .i64 s)) := fun w' h => (h.cell (p := ⟨wr.heap.size, 1, none⟩) (Nat.lt_succ_self _)).trans (hnb.cell rfl)
                have M1 : Hid (∀ w', Below (wr.heap.size + 1) W1 w' → w'.cell? ⟨w.heap.size, 1, none⟩ = some (.slice (some ⟨b, o, none⟩) ws.length c)) := fun w' h => (h.cell (p := ⟨w.heap.size, 1, none⟩) (Nat.lt_succ_of_lt hbs)).trans (HX1.out.cell rfl)
                have MD1 : Hid (∀ w', Below (wr.heap.size + 1) W1 w' → w'.cell? ⟨b, o + j * 3 + 1, none⟩ = some (.int .i64 s')) := fun w' h => (h.cell (p := ⟨b, o + j * 3 + 1, none⟩) (Nat.lt_succ_of_lt hbwr)).trans ((hbw.cell (p := ⟨b, o + j * 3 + 1, none⟩) hbwr).trans d1)
                have MD2 : Hid (∀ w', Below (wr.heap.size + 1) W1 w' → w'.cell? ⟨b, o + j * 3 + 2, none⟩ = some (.int .i64 t')) := fun w' h => (h.cell (p := ⟨b, o + j * 3 + 2, none⟩) (Nat.lt_succ_of_lt hbwr)).trans ((hbw.cell (p := ⟨b, o + j * 3 + 2, none⟩) hbwr).trans d2)
                rw [← hW1]
                clear hW1 hbw hnb hsz1 d1 d2 HN HX
                refine region_vals [.int .i64 (k : Int), .bool true, .bool true, .pointer (some ⟨wr.heap.size, 1, none⟩), .int .i64 s, .pointer (some ⟨w.heap.size, 1, none⟩), .slice (some ⟨b, o, none⟩) ws.length c, .int .i64 (k : Int), .int .i64 (j : Int), .pointer (some ⟨b, o + j * 3, none⟩), .pointer (some ⟨b, o + j * 3 + 1, none⟩), .int .i64 s', .pointer (some ⟨w.heap.size, 1, none⟩), .slice (some ⟨b, o, none⟩) ws.length c, .int .i64 (k : Int), .int .i64 (j : Int), .pointer (some ⟨b, o + j * 3, none⟩), .pointer (some ⟨b, o + j * 3 + 2, none⟩), .int .i64 t', .int .i64 (s' + t'), .bool true, .bool true] [some 71, some 72, some 73, some 74, some 75, some 76, some 77, some 78, some 79, some 80, some 81, some 82, some 83, some 84, some 85, some 86, some 87, some 88, some 89, some 90, some 91, some 92] (fun _ w' => Below (wr.heap.size + 1) W1 w') (by kernel_rfl) (by kernel_rfl) (by kernel_rfl) rfl rfl (Below.refl _ _).drew (fun i hi => ?_) ?_
                · match i, hi with
                  | 0, _ => exact vstep_first rfl (vwant_none rfl) (fun _ _ h => h) 4 (Or.inl rfl) (by kernel_rfl) rfl
                  | 1, _ => exact vstep_pure rfl (vwant_none rfl) (fun _ _ h => h) (fun LL aa ww cc => ⟨.bool true, by have e0 : aa.tmps.getD 71 undef = .int .i64 (k : Int) := cc.slot 0 71 (by kernel_rfl) rfl; have q := Q3.out; have q' := Q3'.out; simp only [execOp, Act.eval, e0]; go_simp, rfl⟩)
                  | 2, _ => exact vstep_copy rfl (vwant_none rfl) (fun _ _ h => h) 72 (Or.inl rfl) 1 (by kernel_rfl) rfl (fun _ h => h)
                  | 3, _ => exact vstep_pure rfl (vwant 2 true 73 rfl (by kernel_rfl) rfl (fun _ h => h) (by kernel_rfl)) (fun _ _ h => h) (fun LL aa ww cc => ⟨.pointer (some ⟨wr.heap.size, 1, none⟩), by have e0 : aa.tmps.getD 5 undef = .pointer (some ⟨wr.heap.size, 0, none⟩) := (cc.orig 5 (by kernel_rfl)).trans rfl; simp only [execOp, Act.eval, e0]; go_simp, rfl⟩)
                  | 4, _ => exact vstep_pure rfl (vwant 2 true 73 rfl (by kernel_rfl) rfl (fun _ h => h) (by kernel_rfl)) (fun _ _ h => h) (fun LL aa ww cc => ⟨.int .i64 s, by have e0 : aa.tmps.getD 74 undef = .pointer (some ⟨wr.heap.size, 1, none⟩) := cc.slot 3 74 (by kernel_rfl) rfl; have m := MS.out _ cc.world; simp only [execOp, Act.eval, e0]; go_simp, rfl⟩)
                  | 5, _ => exact vstep_pure rfl (vwant 2 true 73 rfl (by kernel_rfl) rfl (fun _ h => h) (by kernel_rfl)) (fun _ _ h => h) (fun LL aa ww cc => ⟨.pointer (some ⟨w.heap.size, 1, none⟩), by have e0 : aa.tmps.getD 1 undef = .pointer (some ⟨w.heap.size, 0, none⟩) := (cc.orig 1 (by kernel_rfl)).trans rfl; simp only [execOp, Act.eval, e0]; go_simp, rfl⟩)
                  | 6, _ => exact vstep_pure rfl (vwant 2 true 73 rfl (by kernel_rfl) rfl (fun _ h => h) (by kernel_rfl)) (fun _ _ h => h) (fun LL aa ww cc => ⟨.slice (some ⟨b, o, none⟩) ws.length c, by have e0 : aa.tmps.getD 76 undef = .pointer (some ⟨w.heap.size, 1, none⟩) := cc.slot 5 76 (by kernel_rfl) rfl; have m := M1.out _ cc.world; simp only [execOp, Act.eval, e0]; go_simp, rfl⟩)
                  | 7, _ => exact vstep_first rfl (vwant 2 true 73 rfl (by kernel_rfl) rfl (fun _ h => h) (by kernel_rfl)) (fun _ _ h => h) 4 (Or.inl rfl) (by kernel_rfl) rfl
                  | 8, _ => exact vstep_pure rfl (vwant 2 true 73 rfl (by kernel_rfl) rfl (fun _ h => h) (by kernel_rfl)) (fun _ _ h => h) (fun LL aa ww cc => ⟨.int .i64 (j : Int), by have e0 : aa.tmps.getD 78 undef = .int .i64 (k : Int) := cc.slot 7 78 (by kernel_rfl) rfl; have q := Q1.out; have q' := Q1'.out; simp only [execOp, Act.eval, e0]; go_simp, rfl⟩)
                  | 9, _ => exact vstep_pure rfl (vwant 2 true 73 rfl (by kernel_rfl) rfl (fun _ h => h) (by kernel_rfl)) (fun _ _ h => h) (fun LL aa ww cc => ⟨.pointer (some ⟨b, o + j * 3, none⟩), by have e0 : aa.tmps.getD 77 undef = .slice (some ⟨b, o, none⟩) ws.length c := cc.slot 6 77 (by kernel_rfl) rfl; have e1 : aa.tmps.getD 79 undef = .int .i64 (j : Int) := cc.slot 8 79 (by kernel_rfl) rfl; have q := QJ.out; simp only [execOp, Act.eval, e0, e1]; go_simp, rfl⟩)
                  | 10, _ => exact vstep_pure rfl (vwant 2 true 73 rfl (by kernel_rfl) rfl (fun _ h => h) (by kernel_rfl)) (fun _ _ h => h) (fun LL aa ww cc => ⟨.pointer (some ⟨b, o + j * 3 + 1, none⟩), by have e0 : aa.tmps.getD 80 undef = .pointer (some ⟨b, o + j * 3, none⟩) := cc.slot 9 80 (by kernel_rfl) rfl; simp only [execOp, Act.eval, e0]; go_simp, rfl⟩)
                  | 11, _ => exact vstep_pure rfl (vwant 2 true 73 rfl (by kernel_rfl) rfl (fun _ h => h) (by kernel_rfl)) (fun _ _ h => h) (fun LL aa ww cc => ⟨.int .i64 s', by have e0 : aa.tmps.getD 81 undef = .pointer (some ⟨b, o + j * 3 + 1, none⟩) := cc.slot 10 81 (by kernel_rfl) rfl; have m := MD1.out _ cc.world; simp only [execOp, Act.eval, e0]; go_simp, rfl⟩)
                  | 12, _ => exact vstep_pure rfl (vwant 2 true 73 rfl (by kernel_rfl) rfl (fun _ h => h) (by kernel_rfl)) (fun _ _ h => h) (fun LL aa ww cc => ⟨.pointer (some ⟨w.heap.size, 1, none⟩), by have e0 : aa.tmps.getD 1 undef = .pointer (some ⟨w.heap.size, 0, none⟩) := (cc.orig 1 (by kernel_rfl)).trans rfl; simp only [execOp, Act.eval, e0]; go_simp, rfl⟩)
                  | 13, _ => exact vstep_pure rfl (vwant 2 true 73 rfl (by kernel_rfl) rfl (fun _ h => h) (by kernel_rfl)) (fun _ _ h => h) (fun LL aa ww cc => ⟨.slice (some ⟨b, o, none⟩) ws.length c, by have e0 : aa.tmps.getD 83 undef = .pointer (some ⟨w.heap.size, 1, none⟩) := cc.slot 12 83 (by kernel_rfl) rfl; have m := M1.out _ cc.world; simp only [execOp, Act.eval, e0]; go_simp, rfl⟩)
                  | 14, _ => exact vstep_first rfl (vwant 2 true 73 rfl (by kernel_rfl) rfl (fun _ h => h) (by kernel_rfl)) (fun _ _ h => h) 4 (Or.inl rfl) (by kernel_rfl) rfl
                  | 15, _ => exact vstep_pure rfl (vwant 2 true 73 rfl (by kernel_rfl) rfl (fun _ h => h) (by kernel_rfl)) (fun _ _ h => h) (fun LL aa ww cc => ⟨.int .i64 (j : Int), by have e0 : aa.tmps.getD 85 undef = .int .i64 (k : Int) := cc.slot 14 85 (by kernel_rfl) rfl; have q := Q1.out; have q' := Q1'.out; simp only [execOp, Act.eval, e0]; go_simp, rfl⟩)
                  | 16, _ => exact vstep_pure rfl (vwant 2 true 73 rfl (by kernel_rfl) rfl (fun _ h => h) (by kernel_rfl)) (fun _ _ h => h) (fun LL aa ww cc => ⟨.pointer (some ⟨b, o + j * 3, none⟩), by have e0 : aa.tmps.getD 84 undef = .slice (some ⟨b, o, none⟩) ws.length c := cc.slot 13 84 (by kernel_rfl) rfl; have e1 : aa.tmps.getD 86 undef = .int .i64 (j : Int) := cc.slot 15 86 (by kernel_rfl) rfl; have q := QJ.out; simp only [execOp, Act.eval, e0, e1]; go_simp, rfl⟩)
                  | 17, _ => exact vstep_pure rfl (vwant 2 true 73 rfl (by kernel_rfl) rfl (fun _ h => h) (by kernel_rfl)) (fun _ _ h => h) (fun LL aa ww cc => ⟨.pointer (some ⟨b, o + j * 3 + 2, none⟩), by have e0 : aa.tmps.getD 87 undef = .pointer (some ⟨b, o + j * 3, none⟩) := cc.slot 16 87 (by kernel_rfl) rfl; simp only [execOp, Act.eval, e0]; go_simp, rfl⟩)
                  | 18, _ => exact vstep_pure rfl (vwant 2 true 73 rfl (by kernel_rfl) rfl (fun _ h => h) (by kernel_rfl)) (fun _ _ h => h) (fun LL aa ww cc => ⟨.int .i64 t', by have e0 : aa.tmps.getD 88 undef = .pointer (some ⟨b, o + j * 3 + 2, none⟩) := cc.slot 17 88 (by kernel_rfl) rfl; have m := MD2.out _ cc.world; simp only [execOp, Act.eval, e0]; go_simp, rfl⟩)
                  | 19, _ => exact vstep_pure rfl (vwant 2 true 73 rfl (by kernel_rfl) rfl (fun _ h => h) (by kernel_rfl)) (fun _ _ h => h) (fun LL aa ww cc => ⟨.int .i64 (s' + t'), by have e0 : aa.tmps.getD 82 undef = .int .i64 s' := cc.slot 11 82 (by kernel_rfl) rfl; have e1 : aa.tmps.getD 89 undef = .int .i64 t' := cc.slot 18 89 (by kernel_rfl) rfl; have q := Q2.out; simp only [execOp, Act.eval, e0, e1]; go_simp, rfl⟩)
                  | 20, _ => exact vstep_pure rfl (vwant 2 true 73 rfl (by kernel_rfl) rfl (fun _ h => h) (by kernel_rfl)) (fun _ _ h => h) (fun LL aa ww cc => ⟨.bool true, by have e0 : aa.tmps.getD 75 undef = .int .i64 s := cc.slot 4 75 (by kernel_rfl) rfl; have e1 : aa.tmps.getD 90 undef = .int .i64 (s' + t') := cc.slot 19 90 (by kernel_rfl) rfl; have q := Q5.out; simp only [execOp, Act.eval, e0, e1]; go_simp, rfl⟩)
                  | 21, _ => exact vstep_pure rfl (vwant_none rfl) (fun _ _ h => h) (fun LL aa ww cc => ⟨.bool true, by have e0 : aa.tmps.getD 73 undef = .bool true := cc.slot 2 73 (by kernel_rfl) rfl; have e1 : aa.tmps.getD 91 undef = .bool true := cc.slot 20 91 (by kernel_rfl) rfl; simp only [execOp, Act.eval, e0, e1]; go_simp, rfl⟩)
                  | n + 22, h => exact absurd h (by show ¬ (n + 22 < 22); omega)
                · intro L w5 hall hJ
                  have hJ' : Below (wr.heap.size + 1) W1 w5 := hJ
                  have HB5 : Hid (Below w.heap.size w w5) := HN1.out.trans (hJ'.mono (Nat.le_succ_of_le (Nat.le_of_lt hbs)))
                  have HX5 : Hid (Box w5 w.heap.size [.int .i64 T, .slice (some ⟨b, o, none⟩) ws.length c]) := HX1.out.below hJ' (Nat.lt_succ_of_lt hbs)
                  clear hJ hJ' hall HN1 HX1 MS M1 MD1 MD2 Q1 Q1' Q2 Q3 Q3' Q5 QJ c0 c1 c2 m0 m1
                  refine (by assumption : ∀ (a : Act) (w : World), Code.wp _ _ _ a w → _) _ _ ?_
                  simp only [List.zip_cons_cons, List.zip_nil_right, putsL]
                  go_simp
                  go_wp2
                  go_ret2
                  unfold RetRC
                  rw [hRk.out]
                  exact ⟨rfl, HB5.out⟩
              · have hRk : Hid (R = chk T (ws.drop (k + 1)) (s + t) (k + 1)) := by rw [hst'.out]; exact (if_neg h4).trans ((if_neg h8').trans (if_neg h11))
                have Q5 : Hid (¬ s < s' + t') := by show ¬ s < s' + t'; omega
                clear g1 hst' h4 h8' hbel hbox hnew hbox2 hj hjl g2 g3 h11
                go_wp2_with fail
                obtain ⟨W1, hW1⟩ : ∃ W1, W1 = wr.alloc (.cells #[.int .i64 p, .int .i64 s, .int .i64 t] 39) := ⟨_, rfl⟩
                have HN1 : Hid (Below w.heap.size w W1) := by rw [hW1]; exact HN.out _
                have HX1 : Hid (Box W1 w.heap.size [.int .i64 T, .slice (some ⟨b, o, none⟩) ws.length c]) := by rw [hW1]; exact HX.out _
                have hsz1 : W1.heap.size = wr.heap.size + 1 := by rw [hW1]; simp
                have hbw : Below wr.heap.size wr W1 := by rw [hW1]; exact (Below.refl _ _).alloc (Nat.le_refl _) _
                have hnb : Box W1 wr.heap.size [.int .i64 p, .int .i64 s, .int .i64 t] := by rw [hW1]; exact Box.new wr _ _
                have hbwr : b < wr.heap.size := Nat.lt_of_lt_of_le hb (Nat.le_of_lt hbs)
                have MS : Hid (∀ w', Below (wr.heap.size + 1) W1 w' → w'.cell? ⟨wr.heap.size, 1, none⟩ = some (.int .i64 s)) := fun w' h => (h.cell (p := ⟨wr.heap.size, 1, none⟩) (Nat.lt_succ_self _)).trans (hnb.cell rfl)
                have M1 : Hid (∀ w', Below (wr.heap.size + 1) W1 w' → w'.cell? ⟨w.heap.size, 1, none⟩ = some (.slice (some ⟨b, o, none⟩) ws.length c)) := fun w' h => (h.cell (p := ⟨w.heap.size, 1, none⟩) (Nat.lt_succ_of_lt hbs)).trans (HX1.out.cell rfl)
                have MD1 : Hid (∀ w', Below (wr.heap.size + 1) W1 w' → w'.cell? ⟨b, o + j * 3 + 1, none⟩ = some (.int .i64 s')) := fun w' h => (h.cell (p := ⟨b, o + j * 3 + 1, none⟩) (Nat.lt_succ_of_lt hbwr)).trans ((hbw.cell (p := ⟨b, o + j * 3 + 1, none⟩) hbwr).trans d1)
                have MD2 : Hid (∀ w', Below (wr.heap.size + 1) W1 w' → w'.cell? ⟨b, o + j * 3 + 2, none⟩ = some (.int .i64 t')) := fun w' h => (h.cell (p := ⟨b, o + j * 3 + 2, none⟩) (Nat.lt_succ_of_lt hbwr)).trans ((hbw.cell (p := ⟨b, o + j * 3 + 2, none⟩) hbwr).trans d2)
                rw [← hW1]
                clear hW1 hbw hnb hsz1 d1 d2 HN HX
                refine region_vals [.int .i64 (k : Int), .bool true, .bool true, .pointer (some ⟨wr.heap.size, 1, none⟩), .int .i64 s, .pointer (some ⟨w.heap.size, 1, none⟩), .slice (some ⟨b, o, none⟩) ws.length c, .int .i64 (k : Int), .int .i64 (j : Int), .pointer (some ⟨b, o + j * 3, none⟩), .pointer (some ⟨b, o + j * 3 + 1, none⟩), .int .i64 s', .pointer (some ⟨w.heap.size, 1, none⟩), .slice (some ⟨b, o, none⟩) ws.length c, .int .i64 (k : Int), .int .i64 (j : Int), .pointer (some ⟨b, o + j * 3, none⟩), .pointer (some ⟨b, o + j * 3 + 2, none⟩), .int .i64 t', .int .i64 (s' + t'), .bool false, .bool false] [some 71, some 72, some 73, some 74, some 75, some 76, some 77, some 78, some 79, some 80, some 81, some 82, some 83, some 84, some 85, some 86, some 87, some 88, some 89, some 90, some 91, some 92] (fun _ w' => Below (wr.heap.size + 1) W1 w') (by kernel_rfl) (by kernel_rfl) (by kernel_rfl) rfl rfl (Below.refl _ _).drew (fun i hi => ?_) ?_
                · match i, hi with
                  | 0, _ => exact vstep_first rfl (vwant_none rfl) (fun _ _ h => h) 4 (Or.inl rfl) (by kernel_rfl) rfl
                  | 1, _ => exact vstep_pure rfl (vwant_none rfl) (fun _ _ h => h) (fun LL aa ww cc => ⟨.bool true, by have e0 : aa.tmps.getD 71 undef = .int .i64 (k : Int) := cc.slot 0 71 (by kernel_rfl) rfl; have q := Q3.out; have q' := Q3'.out; simp only [execOp, Act.eval, e0]; go_simp, rfl⟩)
                  | 2, _ => exact vstep_copy rfl (vwant_none rfl) (fun _ _ h => h) 72 (Or.inl rfl) 1 (by kernel_rfl) rfl (fun _ h => h)
                  | 3, _ => exact vstep_pure rfl (vwant 2 true 73 rfl (by kernel_rfl) rfl (fun _ h => h) (by kernel_rfl)) (fun _ _ h => h) (fun LL aa ww cc => ⟨.pointer (some ⟨wr.heap.size, 1, none⟩), by have e0 : aa.tmps.getD 5 undef = .pointer (some ⟨wr.heap.size, 0, none⟩) := (cc.orig 5 (by kernel_rfl)).trans rfl; simp only [execOp, Act.eval, e0]; go_simp, rfl⟩)
                  | 4, _ => exact vstep_pure rfl (vwant 2 true 73 rfl (by kernel_rfl) rfl (fun _ h => h) (by kernel_rfl)) (fun _ _ h => h) (fun LL aa ww cc => ⟨.int .i64 s, by have e0 : aa.tmps.getD 74 undef = .pointer (some ⟨wr.heap.size, 1, none⟩) := cc.slot 3 74 (by kernel_rfl) rfl; have m := MS.out _ cc.world; simp only [execOp, Act.eval, e0]; go_simp, rfl⟩)
                  | 5, _ => exact vstep_pure rfl (vwant 2 true 73 rfl (by kernel_rfl) rfl (fun _ h => h) (by kernel_rfl)) (fun _ _ h => h) (fun LL aa ww cc => ⟨.pointer (some ⟨w.heap.size, 1, none⟩), by have e0 : aa.tmps.getD 1 undef = .pointer (some ⟨w.heap.size, 0, none⟩) := (cc.orig 1 (by kernel_rfl)).trans rfl; simp only [execOp, Act.eval, e0]; go_simp, rfl⟩)
                  | 6, _ => exact vstep_pure rfl (vwant 2 true 73 rfl (by kernel_rfl) rfl (fun _ h => h) (by kernel_rfl)) (fun _ _ h => h) (fun LL aa ww cc => ⟨.slice (some ⟨b, o, none⟩) ws.length c, by have e0 : aa.tmps.getD 76 undef = .pointer (some ⟨w.heap.size, 1, none⟩) := cc.slot 5 76 (by kernel_rfl) rfl; have m := M1.out _ cc.world; simp only [execOp, Act.eval, e0]; go_simp, rfl⟩)
                  | 7, _ => exact vstep_first rfl (vwant 2 true 73 rfl (by kernel_rfl) rfl (fun _ h => h) (by kernel_rfl)) (fun _ _ h => h) 4 (Or.inl rfl) (by kernel_rfl) rfl
                  | 8, _ => exact vstep_pure rfl (vwant 2 true 73 rfl (by kernel_rfl) rfl (fun _ h => h) (by kernel_rfl)) (fun _ _ h => h) (fun LL aa ww cc => ⟨.int .i64 (j : Int), by have e0 : aa.tmps.getD 78 undef = .int .i64 (k : Int) := cc.slot 7 78 (by kernel_rfl) rfl; have q := Q1.out; have q' := Q1'.out; simp only [execOp, Act.eval, e0]; go_simp, rfl⟩)
                  | 9, _ => exact vstep_pure rfl (vwant 2 true 73 rfl (by kernel_rfl) rfl (fun _ h => h) (by kernel_rfl)) (fun _ _ h => h) (fun LL aa ww cc => ⟨.pointer (some ⟨b, o + j * 3, none⟩), by have e0 : aa.tmps.getD 77 undef = .slice (some ⟨b, o, none⟩) ws.length c := cc.slot 6 77 (by kernel_rfl) rfl; have e1 : aa.tmps.getD 79 undef = .int .i64 (j : Int) := cc.slot 8 79 (by kernel_rfl) rfl; have q := QJ.out; simp only [execOp, Act.eval, e0, e1]; go_simp, rfl⟩)
                  | 10, _ => exact vstep_pure rfl (vwant 2 true 73 rfl (by kernel_rfl) rfl (fun _ h => h) (by kernel_rfl)) (fun _ _ h => h) (fun LL aa ww cc => ⟨.pointer (some ⟨b, o + j * 3 + 1, none⟩), by have e0 : aa.tmps.getD 80 undef = .pointer (some ⟨b, o + j * 3, none⟩) := cc.slot 9 80 (by kernel_rfl) rfl; simp only [execOp, Act.eval, e0]; go_simp, rfl⟩)
                  | 11, _ => exact vstep_pure rfl (vwant 2 true 73 rfl (by kernel_rfl) rfl (fun _ h => h) (by kernel_rfl)) (fun _ _ h => h) (fun LL aa ww cc => ⟨.int .i64 s', by have e0 : aa.tmps.getD 81 undef = .pointer (some ⟨b, o + j * 3 + 1, none⟩) := cc.slot 10 81 (by kernel_rfl) rfl; have m := MD1.out _ cc.world; simp only [execOp, Act.eval, e0]; go_simp, rfl⟩)
                  | 12, _ => exact vstep_pure rfl (vwant 2 true 73 rfl (by kernel_rfl) rfl (fun _ h => h) (by kernel_rfl)) (fun _ _ h => h) (fun LL aa ww cc => ⟨.pointer (some ⟨w.heap.size, 1, none⟩), by have e0 : aa.tmps.getD 1 undef = .pointer (some ⟨w.heap.size, 0, none⟩) := (cc.orig 1 (by kernel_rfl)).trans rfl; simp only [execOp, Act.eval, e0]; go_simp, rfl⟩)
                  | 13, _ => exact vstep_pure rfl (vwant 2 true 73 rfl (by kernel_rfl) rfl (fun _ h => h) (by kernel_rfl)) (fun _ _ h => h) (fun LL aa ww cc => ⟨.slice (some ⟨b, o, none⟩) ws.length c, by have e0 : aa.tmps.getD 83 undef = .pointer (some ⟨w.heap.size, 1, none⟩) := cc.slot 12 83 (by kernel_rfl) rfl; have m := M1.out _ cc.world; simp only [execOp, Act.eval, e0]; go_simp, rfl⟩)
                  | 14, _ => exact vstep_first rfl (vwant 2 true 73 rfl (by kernel_rfl) rfl (fun _ h => h) (by kernel_rfl)) (fun _ _ h => h) 4 (Or.inl rfl) (by kernel_rfl) rfl
                  | 15, _ => exact vstep_pure rfl (vwant 2 true 73 rfl (by kernel_rfl) rfl (fun _ h => h) (by kernel_rfl)) (fun _ _ h => h) (fun LL aa ww cc => ⟨.int .i64 (j : Int), by have e0 : aa.tmps.getD 85 undef = .int .i64 (k : Int) := cc.slot 14 85 (by kernel_rfl) rfl; have q := Q1.out; have q' := Q1'.out; simp only [execOp, Act.eval, e0]; go_simp, rfl⟩)
                  | 16, _ => exact vstep_pure rfl (vwant 2 true 73 rfl (by kernel_rfl) rfl (fun _ h => h) (by kernel_rfl)) (fun _ _ h => h) (fun LL aa ww cc => ⟨.pointer (some ⟨b, o + j * 3, none⟩), by have e0 : aa.tmps.getD 84 undef = .slice (some ⟨b, o, none⟩) ws.length c := cc.slot 13 84 (by kernel_rfl) rfl; have e1 : aa.tmps.getD 86 undef = .int .i64 (j : Int) := cc.slot 15 86 (by kernel_rfl) rfl; have q := QJ.out; simp only [execOp, Act.eval, e0, e1]; go_simp, rfl⟩)
                  | 17, _ => exact vstep_pure rfl (vwant 2 true 73 rfl (by kernel_rfl) rfl (fun _ h => h) (by kernel_rfl)) (fun _ _ h => h) (fun LL aa ww cc => ⟨.pointer (some ⟨b, o + j * 3 + 2, none⟩), by have e0 : aa.tmps.getD 87 undef = .pointer (some ⟨b, o + j * 3, none⟩) := cc.slot 16 87 (by kernel_rfl) rfl; simp only [execOp, Act.eval, e0]; go_simp, rfl⟩)
                  | 18, _ => exact vstep_pure rfl (vwant 2 true 73 rfl (by kernel_rfl) rfl (fun _ h => h) (by kernel_rfl)) (fun _ _ h => h) (fun LL aa ww cc => ⟨.int .i64 t', by have e0 : aa.tmps.getD 88 undef = .pointer (some ⟨b, o + j * 3 + 2, none⟩) := cc.slot 17 88 (by kernel_rfl) rfl; have m := MD2.out _ cc.world; simp only [execOp, Act.eval, e0]; go_simp, rfl⟩)
                  | 19, _ => exact vstep_pure rfl (vwant 2 true 73 rfl (by kernel_rfl) rfl (fun _ h => h) (by kernel_rfl)) (fun _ _ h => h) (fun LL aa ww cc => ⟨.int .i64 (s' + t'), by have e0 : aa.tmps.getD 82 undef = .int .i64 s' := cc.slot 11 82 (by kernel_rfl) rfl; have e1 : aa.tmps.getD 89 undef = .int .i64 t' := cc.slot 18 89 (by kernel_rfl) rfl; have q := Q2.out; simp only [execOp, Act.eval, e0, e1]; go_simp, rfl⟩)
                  | 20, _ => exact vstep_pure rfl (vwant 2 true 73 rfl (by kernel_rfl) rfl (fun _ h => h) (by kernel_rfl)) (fun _ _ h => h) (fun LL aa ww cc => ⟨.bool false, by have e0 : aa.tmps.getD 75 undef = .int .i64 s := cc.slot 4 75 (by kernel_rfl) rfl; have e1 : aa.tmps.getD 90 undef = .int .i64 (s' + t') := cc.slot 19 90 (by kernel_rfl) rfl; have q := Q5.out; simp only [execOp, Act.eval, e0, e1]; go_simp, rfl⟩)
                  | 21, _ => exact vstep_pure rfl (vwant_none rfl) (fun _ _ h => h) (fun LL aa ww cc => ⟨.bool false, by have e0 : aa.tmps.getD 73 undef = .bool true := cc.slot 2 73 (by kernel_rfl) rfl; have e1 : aa.tmps.getD 91 undef = .bool false := cc.slot 20 91 (by kernel_rfl) rfl; simp only [execOp, Act.eval, e0, e1]; go_simp, rfl⟩)
                  | n + 22, h => exact absurd h (by show ¬ (n + 22 < 22); omega)
                · intro L w5 hall hJ
                  have hJ' : Below (wr.heap.size + 1) W1 w5 := hJ
                  have HB5 : Hid (Below w.heap.size w w5) := HN1.out.trans (hJ'.mono (Nat.le_succ_of_le (Nat.le_of_lt hbs)))
                  have HX5 : Hid (Box w5 w.heap.size [.int .i64 T, .slice (some ⟨b, o, none⟩) ws.length c]) := HX1.out.below hJ' (Nat.lt_succ_of_lt hbs)
                  clear hJ hJ' hall HN1 HX1 MS M1 MD1 MD2 Q1 Q1' Q2 Q3 Q3' Q5 QJ c0 c1 c2 m0 m1
                  refine (by assumption : ∀ (a : Act) (w : World), Code.wp _ _ _ a w → _) _ _ ?_
                  simp only [List.zip_cons_cons, List.zip_nil_right, putsL]
                  go_simp
                  go_wp2
                  go_roundw
                  case rel => exact ⟨k + 1, s + t, by omega, by go_num, by omega, by omega, fun h => absurd h (by omega), HE2, hRk, HB5.out, HX5.out⟩
                  case measure => simp [intOf]; omega
      · have e0 : R = none := by rw [HR.out, List.drop_of_length_le (by omega)]; rfl
        have HE' := Lib.hid e0
        have HB := Lib.hid hbel
        have m1 : wr.cell? ⟨w.heap.size, 1, none⟩ = some (.slice A ws.length c) := hbox.cell rfl
        clear e0 HR hbel hbox HE hk0
        go_wp2
        go_ret2
        unfold RetRC
        rw [HE'.out]
        exact ⟨rfl, HB.out⟩
end Go.Proofs.YthdipdbmikkplaaDoor
