/- The document's places of a table. -/
import Derived.Test.YthdipdbmikkplaaTabRef
namespace Go.Proofs.Ythdipdbmikkplaa
open Go.RowKit Nac Nac.Table
def plL (ws : List Win) (n : Nat) : List Int := (List.range n).map fun j : Nat => place ws j
theorem plL_len (ws : List Win) (n : Nat) : (plL ws n).length = n := by simp [plL]
theorem plL_succ (ws : List Win) (n : Nat) : plL ws (n + 1) = plL ws n ++ [place ws n] := by simp [plL, List.range_succ]
theorem plL_get (ws : List Win) (n j : Nat) (h : j < (plL ws n).length) : (plL ws n)[j] = place ws j := by simp [plL]
/-- the last of the first i windows that holds a place -/
def HasI (ws : List Win) (k : Int) (i : Nat) (h : Int) : Prop := (h = -1 ∧ ∀ j (hj : j < ws.length), j < i → ws[j].holds k = false) ∨ ∃ j, ∃ hj : j < ws.length, j < i ∧ h = (j : Int) ∧ ws[j].holds k = true
theorem HasI.yes {ws : List Win} {k : Int} {i : Nat} {h : Int} (_ : HasI ws k i h) (hi : i < ws.length) (ht : ws[i].holds k = true) : HasI ws k (i + 1) (i : Int) := .inr ⟨i, hi, by omega, rfl, ht⟩
theorem HasI.no {ws : List Win} {k : Int} {i : Nat} {h : Int} (H : HasI ws k i h) (hi : i < ws.length) (ht : ws[i].holds k = false) : HasI ws k (i + 1) h := by
  rcases H with ⟨h1, h2⟩ | ⟨j, h1, h2, h3, h4⟩
  · refine .inl ⟨h1, fun j hj hji => ?_⟩
    by_cases e : j = i
    · subst e; exact ht
    · exact h2 j hj (by omega)
  · exact .inr ⟨j, h1, by omega, h3, h4⟩
theorem HasI.fin {T : Int} {ws : List Win} (hf : Fit T 0 ws) {k : Int} {i : Nat} {h : Int} (H : HasI ws k i h) (hi : ws.length ≤ i) : h = place ws k := by
  rcases H with ⟨h1, h2⟩ | ⟨j, h1, h2, h3, h4⟩
  · rw [h1, place_none fun j hj => h2 j hj (by omega)]
  · rw [h3, place_eq hf h1 h4]
def RetPl (w : World) (ws : List Win) (n : Nat) (e : Ending) (w' : World) : Prop := ∃ A c, e = .returned (.slice A n c) ∧ RI w' w'.heap.size A (plL ws n) ∧ Below w.heap.size w w'
set_option maxHeartbeats 4000000 in
set_option maxRecDepth 100000 in
theorem places_calls (w : World) (T : Int) (A : Option Addr) (c : Nat) (ws : List Win) (hA : RW w w.heap.size A ws) (hck : check T ws = none) :
    Calls Try.prog 10 #[.agg #[.int .i64 T, .slice A ws.length c]] w (RetPl w ws T.toNat) := by
  obtain ⟨t1, t2, t3, hf⟩ := check_none hck
  have HF := Lib.hid hf
  clear hck hf
  go_enter Try.func10, Try.ntmps10
  go_wp2_with fail
  go_loopw [3, 4] (fun s3 s4 wr => ∃ (k : Nat) (A3 : Option Addr) (c3 : Nat) (L : List Int), (k : Int) ≤ T ∧ s4 = .int .i64 k ∧ s3 = .slice A3 L.length c3 ∧ Hid (L.length = k) ∧ Hid (L = plL ws k) ∧ Hid (OI wr (w.heap.size + 1) A3 c3 L) ∧ Hid (Below w.heap.size w wr) ∧ Hid (Box wr w.heap.size [.int .i64 T, .slice A ws.length c])) (fun _ s4 _ => 300 - (intOf s4).toNat)
  case atStart => exact ⟨0, none, 0, [], by omega, rfl, rfl, rfl, rfl, OI.nil _ _, (Below.refl _ _).alloc (Nat.le_refl _) _, Box.new w _ _⟩
  case round =>
    obtain ⟨k, A3, c3, L, hk, rfl, rfl, HLk, HL, HO, HB, HX⟩ := hrel
    have m0 : wr.cell? ⟨w.heap.size, 0, none⟩ = some (.int .i64 T) := HX.out.cell rfl
    by_cases hkT : (k : Int) < T
    · go_wp2_with fail
      obtain ⟨wo, hwo⟩ : ∃ wo, wo = wr := ⟨_, rfl⟩
      rw [← hwo] at HO HB HX m0 ⊢
      clear hwo
      go_loopw [5, 6] (fun s5 s6 wr => ∃ (i : Nat) (h : Int), i ≤ ws.length ∧ s6 = .int .i64 i ∧ s5 = .int .i64 h ∧ Hid (HasI ws k i h) ∧ Hid (OI wr (w.heap.size + 1) A3 c3 L) ∧ Hid (Below w.heap.size w wr) ∧ Hid (Box wr w.heap.size [.int .i64 T, .slice A ws.length c])) (fun _ s6 _ => 40 - (intOf s6).toNat)
      case atStart => exact ⟨0, -1, by omega, rfl, rfl, .inl ⟨rfl, fun j _ hj => absurd hj (by omega)⟩, HO, HB, HX⟩
      case round =>
        clear HO HB HX m0
        obtain ⟨i, h, hi, rfl, rfl, HH, HO, HB, HX⟩ := hrel
        have m1 : wr.cell? ⟨w.heap.size, 1, none⟩ = some (.slice A ws.length c) := HX.out.cell rfl
        by_cases hil : i < ws.length
        · obtain ⟨b, o, rfl, hb, c0, c1, c2, hw⟩ := (hA.below HB.out).get hil
          have hfg := fit_get HF.out i hil
          obtain ⟨⟨p, s, t⟩, hx⟩ : ∃ x, x = ws[i] := ⟨_, rfl⟩
          rw [← hx] at c0 c1 c2 hw hfg
          have HX0 := Lib.hid hx
          clear hx
          simp only at c0 c1 c2 hfg
          obtain ⟨g1, g2, g3, g4, g5, g6⟩ := hfg
          have hbs := HX.out.lt
          have hbwr : b < wr.heap.size := Nat.lt_of_lt_of_le hb (Nat.le_of_lt hbs)
          have M1 : Hid (∀ w', Below wr.heap.size wr w' → w'.cell? ⟨w.heap.size, 1, none⟩ = some (.slice (some ⟨b, o, none⟩) ws.length c)) := fun w' h => (h.cell (p := ⟨w.heap.size, 1, none⟩) hbs).trans m1
          have MD1 : Hid (∀ w', Below wr.heap.size wr w' → w'.cell? ⟨b, o + i * 3 + 1, none⟩ = some (.int .i64 s)) := fun w' h => (h.cell (p := ⟨b, o + i * 3 + 1, none⟩) hbwr).trans c1
          have MD2 : Hid (∀ w', Below wr.heap.size wr w' → w'.cell? ⟨b, o + i * 3 + 2, none⟩ = some (.int .i64 t)) := fun w' h => (h.cell (p := ⟨b, o + i * 3 + 2, none⟩) hbwr).trans c2
          have QI := Lib.hid hil
          have Q2 : Hid (IntKind.i64.wrap (s + t) = s + t) := by show _ = _; rw [IntKind.wrap_i64]; omega
          have hs1 : 0 ≤ s := g5
          have hs2 : s + t ≤ 256 := by omega
          have ht1 : 1 ≤ t := g3
          have ht2 : True := trivial
          clear hw c0 c1 c2 g1 g2 g3 g4 g5 g6
          by_cases hks : s ≤ (k : Int)
          · by_cases hkt : (k : Int) < s + t
            · have HOLD : Hid ((ws[i]'hil).holds k = true) := Lib.hid <| by
                rw [← HX0.out]
                simp [Win.holds]; omega
              have Q1 : Hid (s ≤ (k : Int)) := hks
              have Q3 : Hid ((k : Int) < s + t) := hkt
              have HH2 : Hid (HasI ws k (i + 1) (i : Int)) := HH.out.yes hil HOLD.out
              clear hks hkt HOLD HX0 HH
              clear hs1 hs2 ht1 ht2
              go_wp2_with fail
              refine region_vals [.int .i64 (k : Int), .pointer (some ⟨w.heap.size, 1, none⟩), .slice (some ⟨b, o, none⟩) ws.length c, .int .i64 (i : Int), .pointer (some ⟨b, o + i * 3, none⟩), .pointer (some ⟨b, o + i * 3 + 1, none⟩), .int .i64 s, .bool true, .bool true, .int .i64 (k : Int), .pointer (some ⟨w.heap.size, 1, none⟩), .slice (some ⟨b, o, none⟩) ws.length c, .int .i64 (i : Int), .pointer (some ⟨b, o + i * 3, none⟩), .pointer (some ⟨b, o + i * 3 + 1, none⟩), .int .i64 s, .pointer (some ⟨w.heap.size, 1, none⟩), .slice (some ⟨b, o, none⟩) ws.length c, .int .i64 (i : Int), .pointer (some ⟨b, o + i * 3, none⟩), .pointer (some ⟨b, o + i * 3 + 2, none⟩), .int .i64 t, .int .i64 (s + t), .bool true, .bool true] [some 20, some 21, some 22, some 23, some 24, some 25, some 26, some 27, some 28, some 29, some 30, some 31, some 32, some 33, some 34, some 35, some 36, some 37, some 38, some 39, some 40, some 41, some 42, some 43, some 44] (fun _ w' => Below wr.heap.size wr w') (by kernel_rfl) (by kernel_rfl) (by kernel_rfl) rfl rfl (Below.refl _ _).drew (fun ii hii => ?_) ?_
              · match ii, hii with
                | 0, _ => exact vstep_first rfl (vwant_none rfl) (fun _ _ h => h) 4 (Or.inl rfl) (by kernel_rfl) rfl
                | 1, _ => exact vstep_pure rfl (vwant_none rfl) (fun _ _ h => h) (fun LL aa ww cc => ⟨.pointer (some ⟨w.heap.size, 1, none⟩), by have e0 : aa.tmps.getD 1 undef = .pointer (some ⟨w.heap.size, 0, none⟩) := (cc.orig 1 (by kernel_rfl)).trans rfl; simp only [execOp, Act.eval, e0]; go_simp, rfl⟩)
                | 2, _ => exact vstep_pure rfl (vwant_none rfl) (fun _ _ h => h) (fun LL aa ww cc => ⟨.slice (some ⟨b, o, none⟩) ws.length c, by have e0 : aa.tmps.getD 21 undef = .pointer (some ⟨w.heap.size, 1, none⟩) := cc.slot 1 21 (by kernel_rfl) rfl; have m := M1.out _ cc.world; simp only [execOp, Act.eval, e0]; go_simp, rfl⟩)
                | 3, _ => exact vstep_first rfl (vwant_none rfl) (fun _ _ h => h) 6 (Or.inl rfl) (by kernel_rfl) rfl
                | 4, _ => exact vstep_pure rfl (vwant_none rfl) (fun _ _ h => h) (fun LL aa ww cc => ⟨.pointer (some ⟨b, o + i * 3, none⟩), by have e0 : aa.tmps.getD 22 undef = .slice (some ⟨b, o, none⟩) ws.length c := cc.slot 2 22 (by kernel_rfl) rfl; have e1 : aa.tmps.getD 23 undef = .int .i64 (i : Int) := cc.slot 3 23 (by kernel_rfl) rfl; have q := QI.out; simp only [execOp, Act.eval, e0, e1]; go_simp, rfl⟩)
                | 5, _ => exact vstep_pure rfl (vwant_none rfl) (fun _ _ h => h) (fun LL aa ww cc => ⟨.pointer (some ⟨b, o + i * 3 + 1, none⟩), by have e0 : aa.tmps.getD 24 undef = .pointer (some ⟨b, o + i * 3, none⟩) := cc.slot 4 24 (by kernel_rfl) rfl; simp only [execOp, Act.eval, e0]; go_simp, rfl⟩)
                | 6, _ => exact vstep_pure rfl (vwant_none rfl) (fun _ _ h => h) (fun LL aa ww cc => ⟨.int .i64 s, by have e0 : aa.tmps.getD 25 undef = .pointer (some ⟨b, o + i * 3 + 1, none⟩) := cc.slot 5 25 (by kernel_rfl) rfl; have m := MD1.out _ cc.world; simp only [execOp, Act.eval, e0]; go_simp, rfl⟩)
                | 7, _ => exact vstep_pure rfl (vwant_none rfl) (fun _ _ h => h) (fun LL aa ww cc => ⟨.bool true, by have e0 : aa.tmps.getD 20 undef = .int .i64 (k : Int) := cc.slot 0 20 (by kernel_rfl) rfl; have e1 : aa.tmps.getD 26 undef = .int .i64 s := cc.slot 6 26 (by kernel_rfl) rfl; have q := Q1.out; simp only [execOp, Act.eval, e0, e1]; go_simp, rfl⟩)
                | 8, _ => exact vstep_copy rfl (vwant_none rfl) (fun _ _ h => h) 27 (Or.inl rfl) 7 (by kernel_rfl) rfl (fun _ h => h)
                | 9, _ => exact vstep_first rfl (vwant 8 true 28 rfl (by kernel_rfl) rfl (fun _ h => h) (by kernel_rfl)) (fun _ _ h => h) 4 (Or.inl rfl) (by kernel_rfl) rfl
                | 10, _ => exact vstep_pure rfl (vwant 8 true 28 rfl (by kernel_rfl) rfl (fun _ h => h) (by kernel_rfl)) (fun _ _ h => h) (fun LL aa ww cc => ⟨.pointer (some ⟨w.heap.size, 1, none⟩), by have e0 : aa.tmps.getD 1 undef = .pointer (some ⟨w.heap.size, 0, none⟩) := (cc.orig 1 (by kernel_rfl)).trans rfl; simp only [execOp, Act.eval, e0]; go_simp, rfl⟩)
                | 11, _ => exact vstep_pure rfl (vwant 8 true 28 rfl (by kernel_rfl) rfl (fun _ h => h) (by kernel_rfl)) (fun _ _ h => h) (fun LL aa ww cc => ⟨.slice (some ⟨b, o, none⟩) ws.length c, by have e0 : aa.tmps.getD 30 undef = .pointer (some ⟨w.heap.size, 1, none⟩) := cc.slot 10 30 (by kernel_rfl) rfl; have m := M1.out _ cc.world; simp only [execOp, Act.eval, e0]; go_simp, rfl⟩)
                | 12, _ => exact vstep_first rfl (vwant 8 true 28 rfl (by kernel_rfl) rfl (fun _ h => h) (by kernel_rfl)) (fun _ _ h => h) 6 (Or.inl rfl) (by kernel_rfl) rfl
                | 13, _ => exact vstep_pure rfl (vwant 8 true 28 rfl (by kernel_rfl) rfl (fun _ h => h) (by kernel_rfl)) (fun _ _ h => h) (fun LL aa ww cc => ⟨.pointer (some ⟨b, o + i * 3, none⟩), by have e0 : aa.tmps.getD 31 undef = .slice (some ⟨b, o, none⟩) ws.length c := cc.slot 11 31 (by kernel_rfl) rfl; have e1 : aa.tmps.getD 32 undef = .int .i64 (i : Int) := cc.slot 12 32 (by kernel_rfl) rfl; have q := QI.out; simp only [execOp, Act.eval, e0, e1]; go_simp, rfl⟩)
                | 14, _ => exact vstep_pure rfl (vwant 8 true 28 rfl (by kernel_rfl) rfl (fun _ h => h) (by kernel_rfl)) (fun _ _ h => h) (fun LL aa ww cc => ⟨.pointer (some ⟨b, o + i * 3 + 1, none⟩), by have e0 : aa.tmps.getD 33 undef = .pointer (some ⟨b, o + i * 3, none⟩) := cc.slot 13 33 (by kernel_rfl) rfl; simp only [execOp, Act.eval, e0]; go_simp, rfl⟩)
                | 15, _ => exact vstep_pure rfl (vwant 8 true 28 rfl (by kernel_rfl) rfl (fun _ h => h) (by kernel_rfl)) (fun _ _ h => h) (fun LL aa ww cc => ⟨.int .i64 s, by have e0 : aa.tmps.getD 34 undef = .pointer (some ⟨b, o + i * 3 + 1, none⟩) := cc.slot 14 34 (by kernel_rfl) rfl; have m := MD1.out _ cc.world; simp only [execOp, Act.eval, e0]; go_simp, rfl⟩)
                | 16, _ => exact vstep_pure rfl (vwant 8 true 28 rfl (by kernel_rfl) rfl (fun _ h => h) (by kernel_rfl)) (fun _ _ h => h) (fun LL aa ww cc => ⟨.pointer (some ⟨w.heap.size, 1, none⟩), by have e0 : aa.tmps.getD 1 undef = .pointer (some ⟨w.heap.size, 0, none⟩) := (cc.orig 1 (by kernel_rfl)).trans rfl; simp only [execOp, Act.eval, e0]; go_simp, rfl⟩)
                | 17, _ => exact vstep_pure rfl (vwant 8 true 28 rfl (by kernel_rfl) rfl (fun _ h => h) (by kernel_rfl)) (fun _ _ h => h) (fun LL aa ww cc => ⟨.slice (some ⟨b, o, none⟩) ws.length c, by have e0 : aa.tmps.getD 36 undef = .pointer (some ⟨w.heap.size, 1, none⟩) := cc.slot 16 36 (by kernel_rfl) rfl; have m := M1.out _ cc.world; simp only [execOp, Act.eval, e0]; go_simp, rfl⟩)
                | 18, _ => exact vstep_first rfl (vwant 8 true 28 rfl (by kernel_rfl) rfl (fun _ h => h) (by kernel_rfl)) (fun _ _ h => h) 6 (Or.inl rfl) (by kernel_rfl) rfl
                | 19, _ => exact vstep_pure rfl (vwant 8 true 28 rfl (by kernel_rfl) rfl (fun _ h => h) (by kernel_rfl)) (fun _ _ h => h) (fun LL aa ww cc => ⟨.pointer (some ⟨b, o + i * 3, none⟩), by have e0 : aa.tmps.getD 37 undef = .slice (some ⟨b, o, none⟩) ws.length c := cc.slot 17 37 (by kernel_rfl) rfl; have e1 : aa.tmps.getD 38 undef = .int .i64 (i : Int) := cc.slot 18 38 (by kernel_rfl) rfl; have q := QI.out; simp only [execOp, Act.eval, e0, e1]; go_simp, rfl⟩)
                | 20, _ => exact vstep_pure rfl (vwant 8 true 28 rfl (by kernel_rfl) rfl (fun _ h => h) (by kernel_rfl)) (fun _ _ h => h) (fun LL aa ww cc => ⟨.pointer (some ⟨b, o + i * 3 + 2, none⟩), by have e0 : aa.tmps.getD 39 undef = .pointer (some ⟨b, o + i * 3, none⟩) := cc.slot 19 39 (by kernel_rfl) rfl; simp only [execOp, Act.eval, e0]; go_simp, rfl⟩)
                | 21, _ => exact vstep_pure rfl (vwant 8 true 28 rfl (by kernel_rfl) rfl (fun _ h => h) (by kernel_rfl)) (fun _ _ h => h) (fun LL aa ww cc => ⟨.int .i64 t, by have e0 : aa.tmps.getD 40 undef = .pointer (some ⟨b, o + i * 3 + 2, none⟩) := cc.slot 20 40 (by kernel_rfl) rfl; have m := MD2.out _ cc.world; simp only [execOp, Act.eval, e0]; go_simp, rfl⟩)
                | 22, _ => exact vstep_pure rfl (vwant 8 true 28 rfl (by kernel_rfl) rfl (fun _ h => h) (by kernel_rfl)) (fun _ _ h => h) (fun LL aa ww cc => ⟨.int .i64 (s + t), by have e0 : aa.tmps.getD 35 undef = .int .i64 s := cc.slot 15 35 (by kernel_rfl) rfl; have e1 : aa.tmps.getD 41 undef = .int .i64 t := cc.slot 21 41 (by kernel_rfl) rfl; have q := Q2.out; simp only [execOp, Act.eval, e0, e1]; go_simp, rfl⟩)
                | 23, _ => exact vstep_pure rfl (vwant 8 true 28 rfl (by kernel_rfl) rfl (fun _ h => h) (by kernel_rfl)) (fun _ _ h => h) (fun LL aa ww cc => ⟨.bool true, by have e0 : aa.tmps.getD 29 undef = .int .i64 (k : Int) := cc.slot 9 29 (by kernel_rfl) rfl; have e1 : aa.tmps.getD 42 undef = .int .i64 (s + t) := cc.slot 22 42 (by kernel_rfl) rfl; have q := Q3.out; simp only [execOp, Act.eval, e0, e1]; go_simp, rfl⟩)
                | 24, _ => exact vstep_pure rfl (vwant_none rfl) (fun _ _ h => h) (fun LL aa ww cc => ⟨.bool true, by have e0 : aa.tmps.getD 28 undef = .bool true := cc.slot 8 28 (by kernel_rfl) rfl; have e1 : aa.tmps.getD 43 undef = .bool true := cc.slot 23 43 (by kernel_rfl) rfl; simp only [execOp, Act.eval, e0, e1]; go_simp, rfl⟩)
                | n + 25, h => exact absurd h (by show ¬ (n + 25 < 25); omega)
              · intro L0 w5 hall hJ
                have hJ' : Below wr.heap.size wr w5 := hJ
                have HB5 : Hid (Below w.heap.size w w5) := HB.out.trans (hJ'.mono HB.out.size)
                have HX5 : Hid (Box w5 w.heap.size [.int .i64 T, .slice (some ⟨b, o, none⟩) ws.length c]) := HX.out.below hJ' HX.out.lt
                have HO5 : Hid (OI w5 (w.heap.size + 1) A3 c3 L) := HO.out.below hJ' (Nat.le_refl _)
                clear hJ hJ' hall HB HX HO M1 MD1 MD2
                refine (by assumption : ∀ (a : Act) (w : World), Code.wp _ _ _ a w → _) _ _ ?_
                simp only [List.zip_cons_cons, List.zip_nil_right, putsL]
                go_simp
                go_wp2
                go_roundw
                case rel => exact ⟨i + 1, (i : Int), by omega, by go_num, rfl, HH2, HO5, HB5, HX5⟩
                case measure => simp [intOf]; omega
            · have HOLD : Hid ((ws[i]'hil).holds k = false) := Lib.hid <| by
                rw [← HX0.out]
                simp [Win.holds]; omega
              have Q1 : Hid (s ≤ (k : Int)) := hks
              have Q3 : Hid (¬ (k : Int) < s + t) := hkt
              have HH2 : Hid (HasI ws k (i + 1) h) := HH.out.no hil HOLD.out
              clear hks hkt HOLD HX0 HH
              clear hs1 hs2 ht1 ht2
              go_wp2_with fail
              refine region_vals [.int .i64 (k : Int), .pointer (some ⟨w.heap.size, 1, none⟩), .slice (some ⟨b, o, none⟩) ws.length c, .int .i64 (i : Int), .pointer (some ⟨b, o + i * 3, none⟩), .pointer (some ⟨b, o + i * 3 + 1, none⟩), .int .i64 s, .bool true, .bool true, .int .i64 (k : Int), .pointer (some ⟨w.heap.size, 1, none⟩), .slice (some ⟨b, o, none⟩) ws.length c, .int .i64 (i : Int), .pointer (some ⟨b, o + i * 3, none⟩), .pointer (some ⟨b, o + i * 3 + 1, none⟩), .int .i64 s, .pointer (some ⟨w.heap.size, 1, none⟩), .slice (some ⟨b, o, none⟩) ws.length c, .int .i64 (i : Int), .pointer (some ⟨b, o + i * 3, none⟩), .pointer (some ⟨b, o + i * 3 + 2, none⟩), .int .i64 t, .int .i64 (s + t), .bool false, .bool false] [some 20, some 21, some 22, some 23, some 24, some 25, some 26, some 27, some 28, some 29, some 30, some 31, some 32, some 33, some 34, some 35, some 36, some 37, some 38, some 39, some 40, some 41, some 42, some 43, some 44] (fun _ w' => Below wr.heap.size wr w') (by kernel_rfl) (by kernel_rfl) (by kernel_rfl) rfl rfl (Below.refl _ _).drew (fun ii hii => ?_) ?_
              · match ii, hii with
                | 0, _ => exact vstep_first rfl (vwant_none rfl) (fun _ _ h => h) 4 (Or.inl rfl) (by kernel_rfl) rfl
                | 1, _ => exact vstep_pure rfl (vwant_none rfl) (fun _ _ h => h) (fun LL aa ww cc => ⟨.pointer (some ⟨w.heap.size, 1, none⟩), by have e0 : aa.tmps.getD 1 undef = .pointer (some ⟨w.heap.size, 0, none⟩) := (cc.orig 1 (by kernel_rfl)).trans rfl; simp only [execOp, Act.eval, e0]; go_simp, rfl⟩)
                | 2, _ => exact vstep_pure rfl (vwant_none rfl) (fun _ _ h => h) (fun LL aa ww cc => ⟨.slice (some ⟨b, o, none⟩) ws.length c, by have e0 : aa.tmps.getD 21 undef = .pointer (some ⟨w.heap.size, 1, none⟩) := cc.slot 1 21 (by kernel_rfl) rfl; have m := M1.out _ cc.world; simp only [execOp, Act.eval, e0]; go_simp, rfl⟩)
                | 3, _ => exact vstep_first rfl (vwant_none rfl) (fun _ _ h => h) 6 (Or.inl rfl) (by kernel_rfl) rfl
                | 4, _ => exact vstep_pure rfl (vwant_none rfl) (fun _ _ h => h) (fun LL aa ww cc => ⟨.pointer (some ⟨b, o + i * 3, none⟩), by have e0 : aa.tmps.getD 22 undef = .slice (some ⟨b, o, none⟩) ws.length c := cc.slot 2 22 (by kernel_rfl) rfl; have e1 : aa.tmps.getD 23 undef = .int .i64 (i : Int) := cc.slot 3 23 (by kernel_rfl) rfl; have q := QI.out; simp only [execOp, Act.eval, e0, e1]; go_simp, rfl⟩)
                | 5, _ => exact vstep_pure rfl (vwant_none rfl) (fun _ _ h => h) (fun LL aa ww cc => ⟨.pointer (some ⟨b, o + i * 3 + 1, none⟩), by have e0 : aa.tmps.getD 24 undef = .pointer (some ⟨b, o + i * 3, none⟩) := cc.slot 4 24 (by kernel_rfl) rfl; simp only [execOp, Act.eval, e0]; go_simp, rfl⟩)
                | 6, _ => exact vstep_pure rfl (vwant_none rfl) (fun _ _ h => h) (fun LL aa ww cc => ⟨.int .i64 s, by have e0 : aa.tmps.getD 25 undef = .pointer (some ⟨b, o + i * 3 + 1, none⟩) := cc.slot 5 25 (by kernel_rfl) rfl; have m := MD1.out _ cc.world; simp only [execOp, Act.eval, e0]; go_simp, rfl⟩)
                | 7, _ => exact vstep_pure rfl (vwant_none rfl) (fun _ _ h => h) (fun LL aa ww cc => ⟨.bool true, by have e0 : aa.tmps.getD 20 undef = .int .i64 (k : Int) := cc.slot 0 20 (by kernel_rfl) rfl; have e1 : aa.tmps.getD 26 undef = .int .i64 s := cc.slot 6 26 (by kernel_rfl) rfl; have q := Q1.out; simp only [execOp, Act.eval, e0, e1]; go_simp, rfl⟩)
                | 8, _ => exact vstep_copy rfl (vwant_none rfl) (fun _ _ h => h) 27 (Or.inl rfl) 7 (by kernel_rfl) rfl (fun _ h => h)
                | 9, _ => exact vstep_first rfl (vwant 8 true 28 rfl (by kernel_rfl) rfl (fun _ h => h) (by kernel_rfl)) (fun _ _ h => h) 4 (Or.inl rfl) (by kernel_rfl) rfl
                | 10, _ => exact vstep_pure rfl (vwant 8 true 28 rfl (by kernel_rfl) rfl (fun _ h => h) (by kernel_rfl)) (fun _ _ h => h) (fun LL aa ww cc => ⟨.pointer (some ⟨w.heap.size, 1, none⟩), by have e0 : aa.tmps.getD 1 undef = .pointer (some ⟨w.heap.size, 0, none⟩) := (cc.orig 1 (by kernel_rfl)).trans rfl; simp only [execOp, Act.eval, e0]; go_simp, rfl⟩)
                | 11, _ => exact vstep_pure rfl (vwant 8 true 28 rfl (by kernel_rfl) rfl (fun _ h => h) (by kernel_rfl)) (fun _ _ h => h) (fun LL aa ww cc => ⟨.slice (some ⟨b, o, none⟩) ws.length c, by have e0 : aa.tmps.getD 30 undef = .pointer (some ⟨w.heap.size, 1, none⟩) := cc.slot 10 30 (by kernel_rfl) rfl; have m := M1.out _ cc.world; simp only [execOp, Act.eval, e0]; go_simp, rfl⟩)
                | 12, _ => exact vstep_first rfl (vwant 8 true 28 rfl (by kernel_rfl) rfl (fun _ h => h) (by kernel_rfl)) (fun _ _ h => h) 6 (Or.inl rfl) (by kernel_rfl) rfl
                | 13, _ => exact vstep_pure rfl (vwant 8 true 28 rfl (by kernel_rfl) rfl (fun _ h => h) (by kernel_rfl)) (fun _ _ h => h) (fun LL aa ww cc => ⟨.pointer (some ⟨b, o + i * 3, none⟩), by have e0 : aa.tmps.getD 31 undef = .slice (some ⟨b, o, none⟩) ws.length c := cc.slot 11 31 (by kernel_rfl) rfl; have e1 : aa.tmps.getD 32 undef = .int .i64 (i : Int) := cc.slot 12 32 (by kernel_rfl) rfl; have q := QI.out; simp only [execOp, Act.eval, e0, e1]; go_simp, rfl⟩)
                | 14, _ => exact vstep_pure rfl (vwant 8 true 28 rfl (by kernel_rfl) rfl (fun _ h => h) (by kernel_rfl)) (fun _ _ h => h) (fun LL aa ww cc => ⟨.pointer (some ⟨b, o + i * 3 + 1, none⟩), by have e0 : aa.tmps.getD 33 undef = .pointer (some ⟨b, o + i * 3, none⟩) := cc.slot 13 33 (by kernel_rfl) rfl; simp only [execOp, Act.eval, e0]; go_simp, rfl⟩)
                | 15, _ => exact vstep_pure rfl (vwant 8 true 28 rfl (by kernel_rfl) rfl (fun _ h => h) (by kernel_rfl)) (fun _ _ h => h) (fun LL aa ww cc => ⟨.int .i64 s, by have e0 : aa.tmps.getD 34 undef = .pointer (some ⟨b, o + i * 3 + 1, none⟩) := cc.slot 14 34 (by kernel_rfl) rfl; have m := MD1.out _ cc.world; simp only [execOp, Act.eval, e0]; go_simp, rfl⟩)
                | 16, _ => exact vstep_pure rfl (vwant 8 true 28 rfl (by kernel_rfl) rfl (fun _ h => h) (by kernel_rfl)) (fun _ _ h => h) (fun LL aa ww cc => ⟨.pointer (some ⟨w.heap.size, 1, none⟩), by have e0 : aa.tmps.getD 1 undef = .pointer (some ⟨w.heap.size, 0, none⟩) := (cc.orig 1 (by kernel_rfl)).trans rfl; simp only [execOp, Act.eval, e0]; go_simp, rfl⟩)
                | 17, _ => exact vstep_pure rfl (vwant 8 true 28 rfl (by kernel_rfl) rfl (fun _ h => h) (by kernel_rfl)) (fun _ _ h => h) (fun LL aa ww cc => ⟨.slice (some ⟨b, o, none⟩) ws.length c, by have e0 : aa.tmps.getD 36 undef = .pointer (some ⟨w.heap.size, 1, none⟩) := cc.slot 16 36 (by kernel_rfl) rfl; have m := M1.out _ cc.world; simp only [execOp, Act.eval, e0]; go_simp, rfl⟩)
                | 18, _ => exact vstep_first rfl (vwant 8 true 28 rfl (by kernel_rfl) rfl (fun _ h => h) (by kernel_rfl)) (fun _ _ h => h) 6 (Or.inl rfl) (by kernel_rfl) rfl
                | 19, _ => exact vstep_pure rfl (vwant 8 true 28 rfl (by kernel_rfl) rfl (fun _ h => h) (by kernel_rfl)) (fun _ _ h => h) (fun LL aa ww cc => ⟨.pointer (some ⟨b, o + i * 3, none⟩), by have e0 : aa.tmps.getD 37 undef = .slice (some ⟨b, o, none⟩) ws.length c := cc.slot 17 37 (by kernel_rfl) rfl; have e1 : aa.tmps.getD 38 undef = .int .i64 (i : Int) := cc.slot 18 38 (by kernel_rfl) rfl; have q := QI.out; simp only [execOp, Act.eval, e0, e1]; go_simp, rfl⟩)
                | 20, _ => exact vstep_pure rfl (vwant 8 true 28 rfl (by kernel_rfl) rfl (fun _ h => h) (by kernel_rfl)) (fun _ _ h => h) (fun LL aa ww cc => ⟨.pointer (some ⟨b, o + i * 3 + 2, none⟩), by have e0 : aa.tmps.getD 39 undef = .pointer (some ⟨b, o + i * 3, none⟩) := cc.slot 19 39 (by kernel_rfl) rfl; simp only [execOp, Act.eval, e0]; go_simp, rfl⟩)
                | 21, _ => exact vstep_pure rfl (vwant 8 true 28 rfl (by kernel_rfl) rfl (fun _ h => h) (by kernel_rfl)) (fun _ _ h => h) (fun LL aa ww cc => ⟨.int .i64 t, by have e0 : aa.tmps.getD 40 undef = .pointer (some ⟨b, o + i * 3 + 2, none⟩) := cc.slot 20 40 (by kernel_rfl) rfl; have m := MD2.out _ cc.world; simp only [execOp, Act.eval, e0]; go_simp, rfl⟩)
                | 22, _ => exact vstep_pure rfl (vwant 8 true 28 rfl (by kernel_rfl) rfl (fun _ h => h) (by kernel_rfl)) (fun _ _ h => h) (fun LL aa ww cc => ⟨.int .i64 (s + t), by have e0 : aa.tmps.getD 35 undef = .int .i64 s := cc.slot 15 35 (by kernel_rfl) rfl; have e1 : aa.tmps.getD 41 undef = .int .i64 t := cc.slot 21 41 (by kernel_rfl) rfl; have q := Q2.out; simp only [execOp, Act.eval, e0, e1]; go_simp, rfl⟩)
                | 23, _ => exact vstep_pure rfl (vwant 8 true 28 rfl (by kernel_rfl) rfl (fun _ h => h) (by kernel_rfl)) (fun _ _ h => h) (fun LL aa ww cc => ⟨.bool false, by have e0 : aa.tmps.getD 29 undef = .int .i64 (k : Int) := cc.slot 9 29 (by kernel_rfl) rfl; have e1 : aa.tmps.getD 42 undef = .int .i64 (s + t) := cc.slot 22 42 (by kernel_rfl) rfl; have q := Q3.out; simp only [execOp, Act.eval, e0, e1]; go_simp, rfl⟩)
                | 24, _ => exact vstep_pure rfl (vwant_none rfl) (fun _ _ h => h) (fun LL aa ww cc => ⟨.bool false, by have e0 : aa.tmps.getD 28 undef = .bool true := cc.slot 8 28 (by kernel_rfl) rfl; have e1 : aa.tmps.getD 43 undef = .bool false := cc.slot 23 43 (by kernel_rfl) rfl; simp only [execOp, Act.eval, e0, e1]; go_simp, rfl⟩)
                | n + 25, h => exact absurd h (by show ¬ (n + 25 < 25); omega)
              · intro L0 w5 hall hJ
                have hJ' : Below wr.heap.size wr w5 := hJ
                have HB5 : Hid (Below w.heap.size w w5) := HB.out.trans (hJ'.mono HB.out.size)
                have HX5 : Hid (Box w5 w.heap.size [.int .i64 T, .slice (some ⟨b, o, none⟩) ws.length c]) := HX.out.below hJ' HX.out.lt
                have HO5 : Hid (OI w5 (w.heap.size + 1) A3 c3 L) := HO.out.below hJ' (Nat.le_refl _)
                clear hJ hJ' hall HB HX HO M1 MD1 MD2
                refine (by assumption : ∀ (a : Act) (w : World), Code.wp _ _ _ a w → _) _ _ ?_
                simp only [List.zip_cons_cons, List.zip_nil_right, putsL]
                go_simp
                go_wp2
                go_roundw
                case rel => exact ⟨i + 1, h, by omega, by go_num, rfl, HH2, HO5, HB5, HX5⟩
                case measure => simp [intOf]; omega
          · have HOLD : Hid ((ws[i]'hil).holds k = false) := Lib.hid <| by
              rw [← HX0.out]
              simp [Win.holds]; omega
            have Q1 : Hid (¬ s ≤ (k : Int)) := hks
            have HH2 : Hid (HasI ws k (i + 1) h) := HH.out.no hil HOLD.out
            clear hks HOLD HX0 HH
            clear hs1 hs2 ht1 ht2
            go_wp2_with fail
            refine region_vals [.int .i64 (k : Int), .pointer (some ⟨w.heap.size, 1, none⟩), .slice (some ⟨b, o, none⟩) ws.length c, .int .i64 (i : Int), .pointer (some ⟨b, o + i * 3, none⟩), .pointer (some ⟨b, o + i * 3 + 1, none⟩), .int .i64 s, .bool false, .bool false, undef, undef, undef, undef, undef, undef, undef, undef, undef, undef, undef, undef, undef, undef, undef, .bool false] [some 20, some 21, some 22, some 23, some 24, some 25, some 26, some 27, some 28, some 29, some 30, some 31, some 32, some 33, some 34, some 35, some 36, some 37, some 38, some 39, some 40, some 41, some 42, some 43, some 44] (fun _ w' => Below wr.heap.size wr w') (by kernel_rfl) (by kernel_rfl) (by kernel_rfl) rfl rfl (Below.refl _ _).drew (fun ii hii => ?_) ?_
            · match ii, hii with
              | 0, _ => exact vstep_first rfl (vwant_none rfl) (fun _ _ h => h) 4 (Or.inl rfl) (by kernel_rfl) rfl
              | 1, _ => exact vstep_pure rfl (vwant_none rfl) (fun _ _ h => h) (fun LL aa ww cc => ⟨.pointer (some ⟨w.heap.size, 1, none⟩), by have e0 : aa.tmps.getD 1 undef = .pointer (some ⟨w.heap.size, 0, none⟩) := (cc.orig 1 (by kernel_rfl)).trans rfl; simp only [execOp, Act.eval, e0]; go_simp, rfl⟩)
              | 2, _ => exact vstep_pure rfl (vwant_none rfl) (fun _ _ h => h) (fun LL aa ww cc => ⟨.slice (some ⟨b, o, none⟩) ws.length c, by have e0 : aa.tmps.getD 21 undef = .pointer (some ⟨w.heap.size, 1, none⟩) := cc.slot 1 21 (by kernel_rfl) rfl; have m := M1.out _ cc.world; simp only [execOp, Act.eval, e0]; go_simp, rfl⟩)
              | 3, _ => exact vstep_first rfl (vwant_none rfl) (fun _ _ h => h) 6 (Or.inl rfl) (by kernel_rfl) rfl
              | 4, _ => exact vstep_pure rfl (vwant_none rfl) (fun _ _ h => h) (fun LL aa ww cc => ⟨.pointer (some ⟨b, o + i * 3, none⟩), by have e0 : aa.tmps.getD 22 undef = .slice (some ⟨b, o, none⟩) ws.length c := cc.slot 2 22 (by kernel_rfl) rfl; have e1 : aa.tmps.getD 23 undef = .int .i64 (i : Int) := cc.slot 3 23 (by kernel_rfl) rfl; have q := QI.out; simp only [execOp, Act.eval, e0, e1]; go_simp, rfl⟩)
              | 5, _ => exact vstep_pure rfl (vwant_none rfl) (fun _ _ h => h) (fun LL aa ww cc => ⟨.pointer (some ⟨b, o + i * 3 + 1, none⟩), by have e0 : aa.tmps.getD 24 undef = .pointer (some ⟨b, o + i * 3, none⟩) := cc.slot 4 24 (by kernel_rfl) rfl; simp only [execOp, Act.eval, e0]; go_simp, rfl⟩)
              | 6, _ => exact vstep_pure rfl (vwant_none rfl) (fun _ _ h => h) (fun LL aa ww cc => ⟨.int .i64 s, by have e0 : aa.tmps.getD 25 undef = .pointer (some ⟨b, o + i * 3 + 1, none⟩) := cc.slot 5 25 (by kernel_rfl) rfl; have m := MD1.out _ cc.world; simp only [execOp, Act.eval, e0]; go_simp, rfl⟩)
              | 7, _ => exact vstep_pure rfl (vwant_none rfl) (fun _ _ h => h) (fun LL aa ww cc => ⟨.bool false, by have e0 : aa.tmps.getD 20 undef = .int .i64 (k : Int) := cc.slot 0 20 (by kernel_rfl) rfl; have e1 : aa.tmps.getD 26 undef = .int .i64 s := cc.slot 6 26 (by kernel_rfl) rfl; have q := Q1.out; simp only [execOp, Act.eval, e0, e1]; go_simp, rfl⟩)
              | 8, _ => exact vstep_copy rfl (vwant_none rfl) (fun _ _ h => h) 27 (Or.inl rfl) 7 (by kernel_rfl) rfl (fun _ h => h)
              | 9, _ => exact vstep_unwanted rfl 8 true 28 rfl (by kernel_rfl) rfl (fun _ h => Or.inl h) (by kernel_rfl) rfl (fun _ _ h => h)
              | 10, _ => exact vstep_unwanted rfl 8 true 28 rfl (by kernel_rfl) rfl (fun _ h => Or.inl h) (by kernel_rfl) rfl (fun _ _ h => h)
              | 11, _ => exact vstep_unwanted rfl 8 true 28 rfl (by kernel_rfl) rfl (fun _ h => Or.inl h) (by kernel_rfl) rfl (fun _ _ h => h)
              | 12, _ => exact vstep_unwanted rfl 8 true 28 rfl (by kernel_rfl) rfl (fun _ h => Or.inl h) (by kernel_rfl) rfl (fun _ _ h => h)
              | 13, _ => exact vstep_unwanted rfl 8 true 28 rfl (by kernel_rfl) rfl (fun _ h => Or.inl h) (by kernel_rfl) rfl (fun _ _ h => h)
              | 14, _ => exact vstep_unwanted rfl 8 true 28 rfl (by kernel_rfl) rfl (fun _ h => Or.inl h) (by kernel_rfl) rfl (fun _ _ h => h)
              | 15, _ => exact vstep_unwanted rfl 8 true 28 rfl (by kernel_rfl) rfl (fun _ h => Or.inl h) (by kernel_rfl) rfl (fun _ _ h => h)
              | 16, _ => exact vstep_unwanted rfl 8 true 28 rfl (by kernel_rfl) rfl (fun _ h => Or.inl h) (by kernel_rfl) rfl (fun _ _ h => h)
              | 17, _ => exact vstep_unwanted rfl 8 true 28 rfl (by kernel_rfl) rfl (fun _ h => Or.inl h) (by kernel_rfl) rfl (fun _ _ h => h)
              | 18, _ => exact vstep_unwanted rfl 8 true 28 rfl (by kernel_rfl) rfl (fun _ h => Or.inl h) (by kernel_rfl) rfl (fun _ _ h => h)
              | 19, _ => exact vstep_unwanted rfl 8 true 28 rfl (by kernel_rfl) rfl (fun _ h => Or.inl h) (by kernel_rfl) rfl (fun _ _ h => h)
              | 20, _ => exact vstep_unwanted rfl 8 true 28 rfl (by kernel_rfl) rfl (fun _ h => Or.inl h) (by kernel_rfl) rfl (fun _ _ h => h)
              | 21, _ => exact vstep_unwanted rfl 8 true 28 rfl (by kernel_rfl) rfl (fun _ h => Or.inl h) (by kernel_rfl) rfl (fun _ _ h => h)
              | 22, _ => exact vstep_unwanted rfl 8 true 28 rfl (by kernel_rfl) rfl (fun _ h => Or.inl h) (by kernel_rfl) rfl (fun _ _ h => h)
              | 23, _ => exact vstep_unwanted rfl 8 true 28 rfl (by kernel_rfl) rfl (fun _ h => Or.inl h) (by kernel_rfl) rfl (fun _ _ h => h)
              | 24, _ => exact vstep_pure rfl (vwant_none rfl) (fun _ _ h => h) (fun LL aa ww cc => ⟨.bool false, by have e0 : aa.tmps.getD 28 undef = .bool false := cc.slot 8 28 (by kernel_rfl) rfl; simp only [execOp, Act.eval, e0]; go_simp, rfl⟩)
              | n + 25, h => exact absurd h (by show ¬ (n + 25 < 25); omega)
            · intro L0 w5 hall hJ
              have hJ' : Below wr.heap.size wr w5 := hJ
              have HB5 : Hid (Below w.heap.size w w5) := HB.out.trans (hJ'.mono HB.out.size)
              have HX5 : Hid (Box w5 w.heap.size [.int .i64 T, .slice (some ⟨b, o, none⟩) ws.length c]) := HX.out.below hJ' HX.out.lt
              have HO5 : Hid (OI w5 (w.heap.size + 1) A3 c3 L) := HO.out.below hJ' (Nat.le_refl _)
              clear hJ hJ' hall HB HX HO M1 MD1 MD2
              refine (by assumption : ∀ (a : Act) (w : World), Code.wp _ _ _ a w → _) _ _ ?_
              simp only [List.zip_cons_cons, List.zip_nil_right, putsL]
              go_simp
              go_wp2
              go_roundw
              case rel => exact ⟨i + 1, h, by omega, by go_num, rfl, HH2, HO5, HB5, HX5⟩
              case measure => simp [intOf]; omega
        · have hh : h = place ws k := HH.out.fin HF.out (by omega)
          have HP := Lib.hid hh
          have HBn : Hid (w.heap.size + 1 ≤ wr.heap.size) := HX.out.lt
          have csrc : (wr.alloc (.cells #[.int .i64 h] 3)).cell? ⟨wr.heap.size, 0, none⟩ = some (.int .i64 h) := by rw [World.cell?_alloc_at _ _ _ _ rfl]; rfl
          have hown := HO.out.alloc (.cells #[.int .i64 h] 3)
          have hbs : w.heap.size + 1 ≤ (wr.alloc (.cells #[.int .i64 h] 3)).heap.size := by have := HBn.out; simp; omega
          have HC := Lib.hid csrc
          have HOW := Lib.hid hown
          clear hh csrc hown HH
          go_wp2_with (at_builtin; refine wpList_app_int _ rfl _ _ rfl (w.heap.size + 1) A3 c3 L _ rfl rfl HOW.out wr.heap.size _ h rfl HC.out (by have := HLk.out; omega) hbs ?_)
          rintro A' c' L' w5 HLE ho5 hg5
          have HLE' : Hid (L' = plL ws (k + 1)) := by show L' = _; rw [HLE.out, HL.out, plL_succ, HP.out]
          have hlen : Hid (L'.length = k + 1) := Lib.hid <| by rw [HLE'.out, plL_len]
          have HO5 := Lib.hid ho5
          have hne : ∀ g, A3.map (·.block) = some g → w.heap.size + 1 ≤ g := fun g hg => (HO.out.lt g hg).1
          have hba : Below w.heap.size w (wr.alloc (.cells #[.int .i64 h] 3)) := HB.out.alloc HB.out.size _
          have HB5 : Hid (Below w.heap.size w w5) := hba.grown hg5 hba.size (fun g hg => by have := hne g hg; omega)
          have hbx : Below (w.heap.size + 1) (wr.alloc (.cells #[.int .i64 h] 3)) w5 := (Below.refl _ _).grown hg5 hbs (fun g hg => hne g hg)
          have HX5 : Hid (Box w5 w.heap.size [.int .i64 T, .slice A ws.length c]) := (HX.out.below ((Below.refl (w.heap.size + 1) wr).alloc HBn.out _) (Nat.lt_succ_self _)).below hbx (Nat.lt_succ_self _)
          clear HLE ho5 hg5 hba hbx hbs HO HB HX HC HOW HBn hne m1 HP HL
          go_wp2
          go_roundw
          case rel => exact ⟨k + 1, A', c', L', by omega, by go_num, rfl, hlen, HLE', HO5, HB5, HX5⟩
          case measure => simp [intOf]; omega
    · have hkt : T.toNat = k := by omega
      have HKT := Lib.hid hkt
      have HRI : Hid (RI wr wr.heap.size A3 (plL ws k)) := by show RI _ _ _ _; rw [← HL.out]; exact HO.out.ri
      clear hkt HL
      go_wp2
      go_ret
      unfold RetPl
      rw [HKT.out]
      exact ⟨A3, c3, by rw [← HLk.out]; rfl, HRI.out, HB.out⟩
end Go.Proofs.Ythdipdbmikkplaa
