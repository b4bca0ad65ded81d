/- The document's Turn, Share, Turns, Next. -/
import Derived.Test.YthdipdbmikkplaaTabPlaces
namespace Go.Proofs.Ythdipdbmikkplaa
open Go.RowKit Nac Nac.Table
set_option maxHeartbeats 4000000 in
theorem rturn_calls (w : World) (T p : Int) (A : Option Addr) (c : Nat) (ws : List Win) (hA : RW w w.heap.size A ws) (hck : check T ws = none) (n : Nat) (A3 : Option Addr) (c3 : Nat) (h3 : RI w w.heap.size A3 (plL ws n)) (hn : n ≤ 256) (k : Nat) (hk : k < n) :
    Calls Try.prog 23 #[.agg #[.int .i64 T, .slice A ws.length c], .slice A3 n c3, .int .i64 p, .int .i64 k] w fun e w' => e = .returned (.bool (tf ws p k)) ∧ Below w.heap.size w w' := by
  obtain ⟨t1, t2, t3, hf⟩ := check_none hck
  obtain ⟨b3, o3, rfl, hb3, hl⟩ := h3.get (k := k) (by rw [plL_len]; exact hk)
  rw [plL_get] at hl
  have htf := tf_place hf p k
  have hplt := place_lt ws k
  go_enter Try.func23, Try.ntmps23
  go_wp2_with fail
  obtain ⟨W, hW⟩ : ∃ W, W = w.alloc (.cells #[.int .i64 T, .slice A ws.length c] 24) := ⟨_, rfl⟩
  have HB : Hid (Below w.heap.size w W) := by rw [hW]; exact (Below.refl _ _).alloc (Nat.le_refl _) _
  have hx : Box W w.heap.size [.int .i64 T, .slice A ws.length c] := by rw [hW]; exact Box.new w _ _
  rw [← hW]
  clear hW
  have M1 : Hid (∀ w', Below W.heap.size W w' → w'.cell? ⟨w.heap.size, 1, none⟩ = some (.slice A ws.length c)) := fun w' h => (h.cell (p := ⟨w.heap.size, 1, none⟩) hx.lt).trans (hx.cell rfl)
  have QK : Hid (k < n) := hk
  by_cases hneg : place ws k < 0
  · have hm1 : place ws k = -1 := by omega
    have HTF : Hid (tf ws p k = false) := htf.1 hneg
    rw [hm1] at hl
    have ML : Hid (∀ w', Below W.heap.size W w' → w'.cell? ⟨b3, o3 + k, none⟩ = some (.int .i64 (-1))) := fun w' h => (h.cell (p := ⟨b3, o3 + k, none⟩) (Nat.lt_trans hb3 hx.lt)).trans ((HB.out.cell (p := ⟨b3, o3 + k, none⟩) hb3).trans hl)
    have QZ : Hid True := trivial
    clear hl hm1 hneg htf hplt hx
    refine region_vals [.slice (some ⟨b3, o3, none⟩) n c3, .int .i64 (k : Int), .pointer (some ⟨b3, o3 + k, none⟩), .int .i64 (-1), .bool false, .bool false, undef, undef, undef, undef, undef, undef, undef, undef, undef, undef, undef, .bool false, .bool false] [some 9, some 10, some 11, some 12, some 13, some 14, some 15, some 16, some 17, some 18, some 19, some 20, some 21, some 22, some 23, some 24, some 25, some 26, some 8] (fun _ w' => Below W.heap.size W w') (by kernel_rfl) (by kernel_rfl) (by kernel_rfl) rfl rfl (Below.refl _ _).drew (fun ii hii => ?_) ?_
    · match ii, hii with
      | 0, _ => exact vstep_first rfl (vwant_none rfl) (fun _ _ h => h) 1 (Or.inl rfl) (by kernel_rfl) rfl
      | 1, _ => exact vstep_first rfl (vwant_none rfl) (fun _ _ h => h) 3 (Or.inl rfl) (by kernel_rfl) rfl
      | 2, _ => exact vstep_pure rfl (vwant_none rfl) (fun _ _ h => h) (fun LL aa ww cc => ⟨.pointer (some ⟨b3, o3 + k, none⟩), by have e0 : aa.tmps.getD 9 undef = .slice (some ⟨b3, o3, none⟩) n c3 := cc.slot 0 9 (by kernel_rfl) rfl; have e1 : aa.tmps.getD 10 undef = .int .i64 (k : Int) := cc.slot 1 10 (by kernel_rfl) rfl; have q := QK.out; simp only [execOp, Act.eval, e0, e1]; go_simp, rfl⟩)
      | 3, _ => exact vstep_pure rfl (vwant_none rfl) (fun _ _ h => h) (fun LL aa ww cc => ⟨.int .i64 (-1), by have e0 : aa.tmps.getD 11 undef = .pointer (some ⟨b3, o3 + k, none⟩) := cc.slot 2 11 (by kernel_rfl) rfl; have m := ML.out _ cc.world; simp only [execOp, Act.eval, e0]; go_simp, rfl⟩)
      | 4, _ => exact vstep_pure rfl (vwant_none rfl) (fun _ _ h => h) (fun LL aa ww cc => ⟨.bool false, by have e0 : aa.tmps.getD 12 undef = .int .i64 (-1) := cc.slot 3 12 (by kernel_rfl) rfl; have q := QZ.out; simp only [execOp, Act.eval, e0]; go_simp, rfl⟩)
      | 5, _ => exact vstep_copy rfl (vwant_none rfl) (fun _ _ h => h) 13 (Or.inl rfl) 4 (by kernel_rfl) rfl (fun _ h => h)
      | 6, _ => exact vstep_unwanted rfl 5 true 14 rfl (by kernel_rfl) rfl (fun _ h => Or.inl h) (by kernel_rfl) rfl (fun _ _ h => h)
      | 7, _ => exact vstep_unwanted rfl 5 true 14 rfl (by kernel_rfl) rfl (fun _ h => Or.inl h) (by kernel_rfl) rfl (fun _ _ h => h)
      | 8, _ => exact vstep_unwanted rfl 5 true 14 rfl (by kernel_rfl) rfl (fun _ h => Or.inl h) (by kernel_rfl) rfl (fun _ _ h => h)
      | 9, _ => exact vstep_unwanted rfl 5 true 14 rfl (by kernel_rfl) rfl (fun _ h => Or.inl h) (by kernel_rfl) rfl (fun _ _ h => h)
      | 10, _ => exact vstep_unwanted rfl 5 true 14 rfl (by kernel_rfl) rfl (fun _ h => Or.inl h) (by kernel_rfl) rfl (fun _ _ h => h)
      | 11, _ => exact vstep_unwanted rfl 5 true 14 rfl (by kernel_rfl) rfl (fun _ h => Or.inl h) (by kernel_rfl) rfl (fun _ _ h => h)
      | 12, _ => exact vstep_unwanted rfl 5 true 14 rfl (by kernel_rfl) rfl (fun _ h => Or.inl h) (by kernel_rfl) rfl (fun _ _ h => h)
      | 13, _ => exact vstep_unwanted rfl 5 true 14 rfl (by kernel_rfl) rfl (fun _ h => Or.inl h) (by kernel_rfl) rfl (fun _ _ h => h)
      | 14, _ => exact vstep_unwanted rfl 5 true 14 rfl (by kernel_rfl) rfl (fun _ h => Or.inl h) (by kernel_rfl) rfl (fun _ _ h => h)
      | 15, _ => exact vstep_unwanted rfl 5 true 14 rfl (by kernel_rfl) rfl (fun _ h => Or.inl h) (by kernel_rfl) rfl (fun _ _ h => h)
      | 16, _ => exact vstep_unwanted rfl 5 true 14 rfl (by kernel_rfl) rfl (fun _ h => Or.inl h) (by kernel_rfl) rfl (fun _ _ h => h)
      | 17, _ => exact vstep_pure rfl (vwant_none rfl) (fun _ _ h => h) (fun LL aa ww cc => ⟨.bool false, by have e0 : aa.tmps.getD 14 undef = .bool false := cc.slot 5 14 (by kernel_rfl) rfl; simp only [execOp, Act.eval, e0]; go_simp, rfl⟩)
      | 18, _ => exact vstep_copy rfl (vwant_none rfl) (fun _ _ h => h) 26 (Or.inr rfl) 17 (by kernel_rfl) rfl (fun _ h => h)
      | n + 19, h => exact absurd h (by show ¬ (n + 19 < 19); omega)
    · intro L0 w5 hall hJ
      have hJ' : Below W.heap.size W w5 := hJ
      have HB5 : Hid (Below w.heap.size w w5) := HB.out.trans (hJ'.mono HB.out.size)
      clear hJ hJ' hall HB M1 ML
      refine (by assumption : ∀ (a : Act) (w : World), Code.wp _ _ _ a w → _) _ _ ?_
      simp only [List.zip_cons_cons, List.zip_nil_right, putsL]
      go_simp
      go_wp2
      go_ret
      rw [HTF.out]
      exact ⟨rfl, HB5.out⟩
  · obtain ⟨i, hi⟩ : ∃ i : Nat, place ws k = (i : Int) := ⟨(place ws k).toNat, by omega⟩
    have hil : i < ws.length := by omega
    have hte := htf.2 i hil hi
    obtain ⟨b, o, rfl, hb, c0, c1, c2, hw⟩ := hA.get hil
    obtain ⟨q, hq⟩ : ∃ q, q = ws[i].part := ⟨_, rfl⟩
    rw [← hq] at c0 hte
    rw [hi] at hl
    have ML : Hid (∀ w', Below W.heap.size W w' → w'.cell? ⟨b3, o3 + k, none⟩ = some (.int .i64 (i : Int))) := fun w' h => (h.cell (p := ⟨b3, o3 + k, none⟩) (Nat.lt_trans hb3 hx.lt)).trans ((HB.out.cell (p := ⟨b3, o3 + k, none⟩) hb3).trans hl)
    have MP : Hid (∀ w', Below W.heap.size W w' → w'.cell? ⟨b, o + i * 3, none⟩ = some (.int .i64 q)) := fun w' h => (h.cell (p := ⟨b, o + i * 3, none⟩) (Nat.lt_trans hb hx.lt)).trans ((HB.out.cell (p := ⟨b, o + i * 3, none⟩) hb).trans c0)
    have QI : Hid (i < ws.length) := hil
    have QZ : Hid ((0 : Int) ≤ (i : Int)) := Lib.hid (by omega)
    clear hl hneg htf hplt hx c0 c1 c2 hw hq hi hil
    by_cases hqp : q = p
    · have HTF : Hid (tf ws p k = true) := hte.trans (decide_eq_true hqp)
      have QP : Hid (q = p) := hqp
      clear hte hqp
      refine region_vals [.slice (some ⟨b3, o3, none⟩) n c3, .int .i64 (k : Int), .pointer (some ⟨b3, o3 + k, none⟩), .int .i64 (i : Int), .bool true, .bool true, .pointer (some ⟨w.heap.size, 1, none⟩), .slice (some ⟨b, o, none⟩) ws.length c, .slice (some ⟨b3, o3, none⟩) n c3, .int .i64 (k : Int), .pointer (some ⟨b3, o3 + k, none⟩), .int .i64 (i : Int), .pointer (some ⟨b, o + i * 3, none⟩), .pointer (some ⟨b, o + i * 3, none⟩), .int .i64 q, .int .i64 p, .bool true, .bool true, .bool true] [some 9, some 10, some 11, some 12, some 13, some 14, some 15, some 16, some 17, some 18, some 19, some 20, some 21, some 22, some 23, some 24, some 25, some 26, some 8] (fun _ w' => Below W.heap.size W w') (by kernel_rfl) (by kernel_rfl) (by kernel_rfl) rfl rfl (Below.refl _ _).drew (fun ii hii => ?_) ?_
      · match ii, hii with
        | 0, _ => exact vstep_first rfl (vwant_none rfl) (fun _ _ h => h) 1 (Or.inl rfl) (by kernel_rfl) rfl
        | 1, _ => exact vstep_first rfl (vwant_none rfl) (fun _ _ h => h) 3 (Or.inl rfl) (by kernel_rfl) rfl
        | 2, _ => exact vstep_pure rfl (vwant_none rfl) (fun _ _ h => h) (fun LL aa ww cc => ⟨.pointer (some ⟨b3, o3 + k, none⟩), by have e0 : aa.tmps.getD 9 undef = .slice (some ⟨b3, o3, none⟩) n c3 := cc.slot 0 9 (by kernel_rfl) rfl; have e1 : aa.tmps.getD 10 undef = .int .i64 (k : Int) := cc.slot 1 10 (by kernel_rfl) rfl; have q := QK.out; simp only [execOp, Act.eval, e0, e1]; go_simp, rfl⟩)
        | 3, _ => exact vstep_pure rfl (vwant_none rfl) (fun _ _ h => h) (fun LL aa ww cc => ⟨.int .i64 (i : Int), by have e0 : aa.tmps.getD 11 undef = .pointer (some ⟨b3, o3 + k, none⟩) := cc.slot 2 11 (by kernel_rfl) rfl; have m := ML.out _ cc.world; simp only [execOp, Act.eval, e0]; go_simp, rfl⟩)
        | 4, _ => exact vstep_pure rfl (vwant_none rfl) (fun _ _ h => h) (fun LL aa ww cc => ⟨.bool true, by have e0 : aa.tmps.getD 12 undef = .int .i64 (i : Int) := cc.slot 3 12 (by kernel_rfl) rfl; have q := QZ.out; simp only [execOp, Act.eval, e0]; go_simp, rfl⟩)
        | 5, _ => exact vstep_copy rfl (vwant_none rfl) (fun _ _ h => h) 13 (Or.inl rfl) 4 (by kernel_rfl) rfl (fun _ h => h)
        | 6, _ => exact vstep_pure rfl (vwant 5 true 14 rfl (by kernel_rfl) rfl (fun _ h => h) (by kernel_rfl)) (fun _ _ h => h) (fun LL aa ww cc => ⟨.pointer (some ⟨w.heap.size, 1, none⟩), by have e0 : aa.tmps.getD 4 undef = .pointer (some ⟨w.heap.size, 0, none⟩) := (cc.orig 4 (by kernel_rfl)).trans rfl; simp only [execOp, Act.eval, e0]; go_simp, rfl⟩)
        | 7, _ => exact vstep_pure rfl (vwant 5 true 14 rfl (by kernel_rfl) rfl (fun _ h => h) (by kernel_rfl)) (fun _ _ h => h) (fun LL aa ww cc => ⟨.slice (some ⟨b, o, none⟩) ws.length c, by have e0 : aa.tmps.getD 15 undef = .pointer (some ⟨w.heap.size, 1, none⟩) := cc.slot 6 15 (by kernel_rfl) rfl; have m := M1.out _ cc.world; simp only [execOp, Act.eval, e0]; go_simp, rfl⟩)
        | 8, _ => exact vstep_first rfl (vwant 5 true 14 rfl (by kernel_rfl) rfl (fun _ h => h) (by kernel_rfl)) (fun _ _ h => h) 1 (Or.inl rfl) (by kernel_rfl) rfl
        | 9, _ => exact vstep_first rfl (vwant 5 true 14 rfl (by kernel_rfl) rfl (fun _ h => h) (by kernel_rfl)) (fun _ _ h => h) 3 (Or.inl rfl) (by kernel_rfl) rfl
        | 10, _ => exact vstep_pure rfl (vwant 5 true 14 rfl (by kernel_rfl) rfl (fun _ h => h) (by kernel_rfl)) (fun _ _ h => h) (fun LL aa ww cc => ⟨.pointer (some ⟨b3, o3 + k, none⟩), by have e0 : aa.tmps.getD 17 undef = .slice (some ⟨b3, o3, none⟩) n c3 := cc.slot 8 17 (by kernel_rfl) rfl; have e1 : aa.tmps.getD 18 undef = .int .i64 (k : Int) := cc.slot 9 18 (by kernel_rfl) rfl; have q := QK.out; simp only [execOp, Act.eval, e0, e1]; go_simp, rfl⟩)
        | 11, _ => exact vstep_pure rfl (vwant 5 true 14 rfl (by kernel_rfl) rfl (fun _ h => h) (by kernel_rfl)) (fun _ _ h => h) (fun LL aa ww cc => ⟨.int .i64 (i : Int), by have e0 : aa.tmps.getD 19 undef = .pointer (some ⟨b3, o3 + k, none⟩) := cc.slot 10 19 (by kernel_rfl) rfl; have m := ML.out _ cc.world; simp only [execOp, Act.eval, e0]; go_simp, rfl⟩)
        | 12, _ => exact vstep_pure rfl (vwant 5 true 14 rfl (by kernel_rfl) rfl (fun _ h => h) (by kernel_rfl)) (fun _ _ h => h) (fun LL aa ww cc => ⟨.pointer (some ⟨b, o + i * 3, none⟩), by have e0 : aa.tmps.getD 16 undef = .slice (some ⟨b, o, none⟩) ws.length c := cc.slot 7 16 (by kernel_rfl) rfl; have e1 : aa.tmps.getD 20 undef = .int .i64 (i : Int) := cc.slot 11 20 (by kernel_rfl) rfl; have q := QI.out; simp only [execOp, Act.eval, e0, e1]; go_simp, rfl⟩)
        | 13, _ => exact vstep_pure rfl (vwant 5 true 14 rfl (by kernel_rfl) rfl (fun _ h => h) (by kernel_rfl)) (fun _ _ h => h) (fun LL aa ww cc => ⟨.pointer (some ⟨b, o + i * 3, none⟩), by have e0 : aa.tmps.getD 21 undef = .pointer (some ⟨b, o + i * 3, none⟩) := cc.slot 12 21 (by kernel_rfl) rfl; simp only [execOp, Act.eval, e0]; go_simp, rfl⟩)
        | 14, _ => exact vstep_pure rfl (vwant 5 true 14 rfl (by kernel_rfl) rfl (fun _ h => h) (by kernel_rfl)) (fun _ _ h => h) (fun LL aa ww cc => ⟨.int .i64 q, by have e0 : aa.tmps.getD 22 undef = .pointer (some ⟨b, o + i * 3, none⟩) := cc.slot 13 22 (by kernel_rfl) rfl; have m := MP.out _ cc.world; simp only [execOp, Act.eval, e0]; go_simp, rfl⟩)
        | 15, _ => exact vstep_first rfl (vwant 5 true 14 rfl (by kernel_rfl) rfl (fun _ h => h) (by kernel_rfl)) (fun _ _ h => h) 2 (Or.inl rfl) (by kernel_rfl) rfl
        | 16, _ => exact vstep_pure rfl (vwant 5 true 14 rfl (by kernel_rfl) rfl (fun _ h => h) (by kernel_rfl)) (fun _ _ h => h) (fun LL aa ww cc => ⟨.bool true, by have e0 : aa.tmps.getD 23 undef = .int .i64 q := cc.slot 14 23 (by kernel_rfl) rfl; have e1 : aa.tmps.getD 24 undef = .int .i64 p := cc.slot 15 24 (by kernel_rfl) rfl; have q := QP.out; simp only [execOp, Act.eval, e0, e1]; go_simp, rfl⟩)
        | 17, _ => exact vstep_pure rfl (vwant_none rfl) (fun _ _ h => h) (fun LL aa ww cc => ⟨.bool true, by have e0 : aa.tmps.getD 14 undef = .bool true := cc.slot 5 14 (by kernel_rfl) rfl; have e1 : aa.tmps.getD 25 undef = .bool true := cc.slot 16 25 (by kernel_rfl) rfl; simp only [execOp, Act.eval, e0, e1]; go_simp, rfl⟩)
        | 18, _ => exact vstep_copy rfl (vwant_none rfl) (fun _ _ h => h) 26 (Or.inr rfl) 17 (by kernel_rfl) rfl (fun _ h => h)
        | n + 19, h => exact absurd h (by show ¬ (n + 19 < 19); omega)
      · intro L0 w5 hall hJ
        have hJ' : Below W.heap.size W w5 := hJ
        have HB5 : Hid (Below w.heap.size w w5) := HB.out.trans (hJ'.mono HB.out.size)
        clear hJ hJ' hall HB M1 ML
        refine (by assumption : ∀ (a : Act) (w : World), Code.wp _ _ _ a w → _) _ _ ?_
        simp only [List.zip_cons_cons, List.zip_nil_right, putsL]
        go_simp
        go_wp2
        go_ret
        rw [HTF.out]
        exact ⟨rfl, HB5.out⟩
    · have HTF : Hid (tf ws p k = false) := hte.trans (decide_eq_false hqp)
      have QP : Hid (¬ q = p) := hqp
      clear hte hqp
      refine region_vals [.slice (some ⟨b3, o3, none⟩) n c3, .int .i64 (k : Int), .pointer (some ⟨b3, o3 + k, none⟩), .int .i64 (i : Int), .bool true, .bool true, .pointer (some ⟨w.heap.size, 1, none⟩), .slice (some ⟨b, o, none⟩) ws.length c, .slice (some ⟨b3, o3, none⟩) n c3, .int .i64 (k : Int), .pointer (some ⟨b3, o3 + k, none⟩), .int .i64 (i : Int), .pointer (some ⟨b, o + i * 3, none⟩), .pointer (some ⟨b, o + i * 3, none⟩), .int .i64 q, .int .i64 p, .bool false, .bool false, .bool false] [some 9, some 10, some 11, some 12, some 13, some 14, some 15, some 16, some 17, some 18, some 19, some 20, some 21, some 22, some 23, some 24, some 25, some 26, some 8] (fun _ w' => Below W.heap.size W w') (by kernel_rfl) (by kernel_rfl) (by kernel_rfl) rfl rfl (Below.refl _ _).drew (fun ii hii => ?_) ?_
      · match ii, hii with
        | 0, _ => exact vstep_first rfl (vwant_none rfl) (fun _ _ h => h) 1 (Or.inl rfl) (by kernel_rfl) rfl
        | 1, _ => exact vstep_first rfl (vwant_none rfl) (fun _ _ h => h) 3 (Or.inl rfl) (by kernel_rfl) rfl
        | 2, _ => exact vstep_pure rfl (vwant_none rfl) (fun _ _ h => h) (fun LL aa ww cc => ⟨.pointer (some ⟨b3, o3 + k, none⟩), by have e0 : aa.tmps.getD 9 undef = .slice (some ⟨b3, o3, none⟩) n c3 := cc.slot 0 9 (by kernel_rfl) rfl; have e1 : aa.tmps.getD 10 undef = .int .i64 (k : Int) := cc.slot 1 10 (by kernel_rfl) rfl; have q := QK.out; simp only [execOp, Act.eval, e0, e1]; go_simp, rfl⟩)
        | 3, _ => exact vstep_pure rfl (vwant_none rfl) (fun _ _ h => h) (fun LL aa ww cc => ⟨.int .i64 (i : Int), by have e0 : aa.tmps.getD 11 undef = .pointer (some ⟨b3, o3 + k, none⟩) := cc.slot 2 11 (by kernel_rfl) rfl; have m := ML.out _ cc.world; simp only [execOp, Act.eval, e0]; go_simp, rfl⟩)
        | 4, _ => exact vstep_pure rfl (vwant_none rfl) (fun _ _ h => h) (fun LL aa ww cc => ⟨.bool true, by have e0 : aa.tmps.getD 12 undef = .int .i64 (i : Int) := cc.slot 3 12 (by kernel_rfl) rfl; have q := QZ.out; simp only [execOp, Act.eval, e0]; go_simp, rfl⟩)
        | 5, _ => exact vstep_copy rfl (vwant_none rfl) (fun _ _ h => h) 13 (Or.inl rfl) 4 (by kernel_rfl) rfl (fun _ h => h)
        | 6, _ => exact vstep_pure rfl (vwant 5 true 14 rfl (by kernel_rfl) rfl (fun _ h => h) (by kernel_rfl)) (fun _ _ h => h) (fun LL aa ww cc => ⟨.pointer (some ⟨w.heap.size, 1, none⟩), by have e0 : aa.tmps.getD 4 undef = .pointer (some ⟨w.heap.size, 0, none⟩) := (cc.orig 4 (by kernel_rfl)).trans rfl; simp only [execOp, Act.eval, e0]; go_simp, rfl⟩)
        | 7, _ => exact vstep_pure rfl (vwant 5 true 14 rfl (by kernel_rfl) rfl (fun _ h => h) (by kernel_rfl)) (fun _ _ h => h) (fun LL aa ww cc => ⟨.slice (some ⟨b, o, none⟩) ws.length c, by have e0 : aa.tmps.getD 15 undef = .pointer (some ⟨w.heap.size, 1, none⟩) := cc.slot 6 15 (by kernel_rfl) rfl; have m := M1.out _ cc.world; simp only [execOp, Act.eval, e0]; go_simp, rfl⟩)
        | 8, _ => exact vstep_first rfl (vwant 5 true 14 rfl (by kernel_rfl) rfl (fun _ h => h) (by kernel_rfl)) (fun _ _ h => h) 1 (Or.inl rfl) (by kernel_rfl) rfl
        | 9, _ => exact vstep_first rfl (vwant 5 true 14 rfl (by kernel_rfl) rfl (fun _ h => h) (by kernel_rfl)) (fun _ _ h => h) 3 (Or.inl rfl) (by kernel_rfl) rfl
        | 10, _ => exact vstep_pure rfl (vwant 5 true 14 rfl (by kernel_rfl) rfl (fun _ h => h) (by kernel_rfl)) (fun _ _ h => h) (fun LL aa ww cc => ⟨.pointer (some ⟨b3, o3 + k, none⟩), by have e0 : aa.tmps.getD 17 undef = .slice (some ⟨b3, o3, none⟩) n c3 := cc.slot 8 17 (by kernel_rfl) rfl; have e1 : aa.tmps.getD 18 undef = .int .i64 (k : Int) := cc.slot 9 18 (by kernel_rfl) rfl; have q := QK.out; simp only [execOp, Act.eval, e0, e1]; go_simp, rfl⟩)
        | 11, _ => exact vstep_pure rfl (vwant 5 true 14 rfl (by kernel_rfl) rfl (fun _ h => h) (by kernel_rfl)) (fun _ _ h => h) (fun LL aa ww cc => ⟨.int .i64 (i : Int), by have e0 : aa.tmps.getD 19 undef = .pointer (some ⟨b3, o3 + k, none⟩) := cc.slot 10 19 (by kernel_rfl) rfl; have m := ML.out _ cc.world; simp only [execOp, Act.eval, e0]; go_simp, rfl⟩)
        | 12, _ => exact vstep_pure rfl (vwant 5 true 14 rfl (by kernel_rfl) rfl (fun _ h => h) (by kernel_rfl)) (fun _ _ h => h) (fun LL aa ww cc => ⟨.pointer (some ⟨b, o + i * 3, none⟩), by have e0 : aa.tmps.getD 16 undef = .slice (some ⟨b, o, none⟩) ws.length c := cc.slot 7 16 (by kernel_rfl) rfl; have e1 : aa.tmps.getD 20 undef = .int .i64 (i : Int) := cc.slot 11 20 (by kernel_rfl) rfl; have q := QI.out; simp only [execOp, Act.eval, e0, e1]; go_simp, rfl⟩)
        | 13, _ => exact vstep_pure rfl (vwant 5 true 14 rfl (by kernel_rfl) rfl (fun _ h => h) (by kernel_rfl)) (fun _ _ h => h) (fun LL aa ww cc => ⟨.pointer (some ⟨b, o + i * 3, none⟩), by have e0 : aa.tmps.getD 21 undef = .pointer (some ⟨b, o + i * 3, none⟩) := cc.slot 12 21 (by kernel_rfl) rfl; simp only [execOp, Act.eval, e0]; go_simp, rfl⟩)
        | 14, _ => exact vstep_pure rfl (vwant 5 true 14 rfl (by kernel_rfl) rfl (fun _ h => h) (by kernel_rfl)) (fun _ _ h => h) (fun LL aa ww cc => ⟨.int .i64 q, by have e0 : aa.tmps.getD 22 undef = .pointer (some ⟨b, o + i * 3, none⟩) := cc.slot 13 22 (by kernel_rfl) rfl; have m := MP.out _ cc.world; simp only [execOp, Act.eval, e0]; go_simp, rfl⟩)
        | 15, _ => exact vstep_first rfl (vwant 5 true 14 rfl (by kernel_rfl) rfl (fun _ h => h) (by kernel_rfl)) (fun _ _ h => h) 2 (Or.inl rfl) (by kernel_rfl) rfl
        | 16, _ => exact vstep_pure rfl (vwant 5 true 14 rfl (by kernel_rfl) rfl (fun _ h => h) (by kernel_rfl)) (fun _ _ h => h) (fun LL aa ww cc => ⟨.bool false, by have e0 : aa.tmps.getD 23 undef = .int .i64 q := cc.slot 14 23 (by kernel_rfl) rfl; have e1 : aa.tmps.getD 24 undef = .int .i64 p := cc.slot 15 24 (by kernel_rfl) rfl; have q := QP.out; simp only [execOp, Act.eval, e0, e1]; go_simp, rfl⟩)
        | 17, _ => exact vstep_pure rfl (vwant_none rfl) (fun _ _ h => h) (fun LL aa ww cc => ⟨.bool false, by have e0 : aa.tmps.getD 14 undef = .bool true := cc.slot 5 14 (by kernel_rfl) rfl; have e1 : aa.tmps.getD 25 undef = .bool false := cc.slot 16 25 (by kernel_rfl) rfl; simp only [execOp, Act.eval, e0, e1]; go_simp, rfl⟩)
        | 18, _ => exact vstep_copy rfl (vwant_none rfl) (fun _ _ h => h) 26 (Or.inr rfl) 17 (by kernel_rfl) rfl (fun _ h => h)
        | n + 19, h => exact absurd h (by show ¬ (n + 19 < 19); omega)
      · intro L0 w5 hall hJ
        have hJ' : Below W.heap.size W w5 := hJ
        have HB5 : Hid (Below w.heap.size w w5) := HB.out.trans (hJ'.mono HB.out.size)
        clear hJ hJ' hall HB M1 ML
        refine (by assumption : ∀ (a : Act) (w : World), Code.wp _ _ _ a w → _) _ _ ?_
        simp only [List.zip_cons_cons, List.zip_nil_right, putsL]
        go_simp
        go_wp2
        go_ret
        rw [HTF.out]
        exact ⟨rfl, HB5.out⟩
end Go.Proofs.Ythdipdbmikkplaa
