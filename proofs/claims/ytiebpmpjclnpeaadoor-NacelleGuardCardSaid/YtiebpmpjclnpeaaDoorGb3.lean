/- Bundle 3 of the texts GFx1. -/
import Derived.Test.YtiebpmpjclnpeaaDoorGb2
/- Rows of signs; what vanishes, what derives a text. -/
namespace Go.Proofs.YtiebpmpjclnpeaaDoor
open Go.RowKit Nac Nac.Gram
def sgv (x : Sgn) : List Value := [.int .i64 x.name, .int .u8 (x.low : Int), .int .u8 (x.high : Int)]
theorem sgv_len (x : Sgn) : (sgv x).length = 3 := rfl
theorem sgv_one (x : Sgn) : ∀ v ∈ sgv x, v.oneCell' = true := by intro v hv; simp [sgv] at hv; rcases hv with rfl | rfl | rfl <;> rfl
/-- a slice of signs, in a block older than B -/
def RS (w : World) (B : Nat) (A : Option Addr) (l : List Sgn) : Prop := l ≠ [] → ∃ g k, A = some ⟨g, k, none⟩ ∧ g < B ∧ g < w.heap.size ∧ ∀ i (h : i < l.length), w.rangeAt g (k + i * 3) (sgv l[i])
theorem range_below {w w' : World} {B b o : Nat} {cs : List Value} (h : w.rangeAt b o cs) (hb : Below B w w') (hB : b < B) : w'.rangeAt b o cs := fun j v hj => by
  rw [← h j v hj]
  exact hb.cell (p := ⟨b, o + j, none⟩) hB
theorem RS.below {w w' : World} {B B' : Nat} {A : Option Addr} {l : List Sgn} (h : RS w B A l) (hb : Below B' w w') (hB : B ≤ B') : RS w' B A l := fun hne => by
  obtain ⟨g, k, hA, hg, hgs, hr⟩ := h hne
  exact ⟨g, k, hA, hg, Nat.lt_of_lt_of_le hgs hb.size, fun i hi => range_below (hr i hi) hb (by omega)⟩
theorem sSgn : SInfo 88 3 := ⟨by kernel_rfl, _, Tryd.underlying88, rfl⟩
theorem zSgn : ((Tryd.prog.info? 88).bind (·.zero)) = some (.agg (sgv ⟨0, 0, 0⟩).toArray) := by kernel_rfl
section
variable {w : World} {ops : Array Oper} {rest : List Oper} {o : Oper} {a : Act} {Q : Exit → Act → World → Prop} {T : TypeId} {n : Nat}
theorem wpList_loadM (hS : SInfo T n) (hg : o.guard = none) (x : Operand) (hop : o.op = .load T x) (b k : Nat) (cs : List Value) (hx : a.eval x = .pointer (some ⟨b, k, none⟩)) (hb : w.rangeAt b k cs) (hl : cs.length = n)
    (h : wpList Tryd.prog ops Q rest (a.put o.dst (.agg cs.toArray)) w) : wpList Tryd.prog ops Q (o :: rest) a w := by
  obtain ⟨d, hu, hd⟩ := hS.row
  exact wpList_load_mid hg T x hop b k hx cs d hb hu hd (by rw [hS.info, hl]) h
end
/-! ### the cells of the facts -/
theorem fc_text {F : Fx} (h : F.Ok) {n : Nat} (hn : n < 16) : (fcells F)[n]? = some (.bool (F.text.getD n false)) := by
  unfold fcells
  rw [List.getElem?_append_left (by simp [bcs, h.t]; exact hn)]
  simp [bcs, List.getElem?_map, List.getD_eq_getElem?_getD, List.getElem?_eq_getElem (show n < F.text.length by rw [h.t]; exact hn)]
theorem fc_null {F : Fx} (h : F.Ok) {n : Nat} (hn : n < 16) : (fcells F)[16 + n]? = some (.bool (F.nul n)) := by
  unfold fcells
  rw [List.getElem?_append_right (by simp [bcs, h.t]), List.getElem?_append_left (by simp [bcs, h.t, h.n]; exact hn)]
  simp [bcs, h.t, Fx.nul, List.getElem?_map, List.getD_eq_getElem?_getD, List.getElem?_eq_getElem (show n < F.null.length by rw [h.n]; exact hn)]
theorem fcs_len (F : Fx) : ∀ x ∈ F.first.map scs, x.length = 4 := fun x hx => by obtain ⟨s, _, rfl⟩ := List.mem_map.1 hx; rfl
theorem ocs_len (F : Fx) : ∀ x ∈ F.follow.map scs, x.length = 4 := fun x hx => by obtain ⟨s, _, rfl⟩ := List.mem_map.1 hx; rfl
theorem fc_first {F : Fx} (h : F.Ok) {n : Nat} (hn : n < 16) : ∃ pre post, fcells F = pre ++ scs (F.fst n) ++ post ∧ pre.length = 32 + n * 4 := by
  obtain ⟨p, q, e, hl⟩ := flatten_at 4 (F.first.map scs) (fcs_len F) n (by rw [List.length_map, h.f]; exact hn)
  refine ⟨bcs F.text ++ (bcs F.null ++ p), q ++ sets F.follow, ?_, by simp [bcs, h.t, h.n, hl]; omega⟩
  have hx : (F.first.map scs)[n]'(by rw [List.length_map, h.f]; exact hn) = scs (F.fst n) := by
    simp [Fx.fst, List.getD_eq_getElem?_getD, List.getElem?_eq_getElem (show n < F.first.length by rw [h.f]; exact hn)]
  rw [hx] at e
  unfold fcells
  rw [show sets F.first = _ from e]
  simp
theorem fc_follow {F : Fx} (h : F.Ok) {n : Nat} (hn : n < 16) : ∃ pre post, fcells F = pre ++ scs (F.fol n) ++ post ∧ pre.length = 96 + n * 4 := by
  obtain ⟨p, q, e, hl⟩ := flatten_at 4 (F.follow.map scs) (ocs_len F) n (by rw [List.length_map, h.o]; exact hn)
  refine ⟨bcs F.text ++ (bcs F.null ++ (sets F.first ++ p)), q, ?_, by simp [bcs, sets_len, h.t, h.n, h.f, hl]; omega⟩
  have hx : (F.follow.map scs)[n]'(by rw [List.length_map, h.o]; exact hn) = scs (F.fol n) := by
    simp [Fx.fol, List.getD_eq_getElem?_getD, List.getElem?_eq_getElem (show n < F.follow.length by rw [h.o]; exact hn)]
  rw [hx] at e
  unfold fcells
  rw [show sets F.follow = _ from e]
  simp
theorem vanish_drop {F : Fx} {l : List Sgn} {i : Nat} (h : i < l.length) : vanishB F (l.drop i) = (decide (0 ≤ l[i].name) && F.nul l[i].name.toNat && vanishB F (l.drop (i + 1))) := by
  rw [List.drop_eq_getElem_cons h]; rfl
set_option maxRecDepth 100000 in
set_option maxHeartbeats 1000000 in
theorem vanishes_calls (w : World) (F : Fx) (bf : Nat) (A : Option Addr) (c : Nat) (l : List Sgn) (hF : F.Ok) (hf : Blk w bf (fcells F)) (hl : RS w w.heap.size A l) (hn : ∀ x ∈ l, x.name < 16) (hm : l.length ≤ 9223372036854775807) :
    Calls Tryd.prog 33 #[.pointer (some ⟨bf, 0, none⟩), .slice A l.length c] w (RetG w (.bool (vanishB F l))) := by
  have HF := Lib.hid hF
  have HBF := Lib.hid hf
  have HL := Lib.hid hl
  have HN := Lib.hid hn
  have HM := Lib.hid hm
  obtain ⟨L, hL⟩ : ∃ L, L = l.length := ⟨_, rfl⟩
  have HLL := Lib.hid hL
  rw [← hL] at hm ⊢
  clear hF hf hl hn hL
  go_enter Tryd.func33, Tryd.ntmps33
  go_wp2
  go_loopw [9] (fun s9 wr => ∃ i : Nat, i ≤ L ∧ s9 = .int .i64 (i : Int) ∧ Below w.heap.size w wr ∧ vanishB F l = vanishB F (l.drop i)) (fun s9 _ => L - (intOf s9).toNat)
  case atStart => exact ⟨0, Nat.zero_le _, rfl, Below.refl _ _, rfl⟩
  case round =>
    obtain ⟨i, hi, rfl, hr, hv⟩ := hrel
    have HR := Lib.hid hr
    have HV := Lib.hid hv
    clear hr hv
    by_cases hlt : i < L
    · have hil : i < l.length := by rw [← HLL.out]; exact hlt
      obtain ⟨g, k, hA, hgB, hgs, hrow⟩ := HL.out (by rintro rfl; simp at hil)
      subst hA
      obtain ⟨x, hx⟩ : ∃ x, x = l[i] := ⟨_, rfl⟩
      have HXI : Hid (∃ h : i < l.length, x = l[i]) := Lib.hid ⟨hil, hx⟩
      have HRG : Hid (wr.rangeAt g (k + i * 3) (sgv x)) := Lib.hid (range_below (by rw [hx]; exact hrow i hil) HR.out hgB)
      have hxn : x.name < 16 := HN.out x (by rw [hx]; exact List.getElem_mem hil)
      clear hx hrow hgB hgs hil
      go_wp2_with (first
        | ((with_reducible show wpList _ _ _ (Oper.mk _ (Op.load 88 _) _ _ _ _ :: _) _ _); refine wpList_loadM sSgn rfl _ rfl g (k + i * 3) (sgv x) rfl HRG.out rfl ?_)
        | ((with_reducible show wpList _ _ _ (Oper.mk _ (Op.alloc 88) _ _ _ _ :: _) _ _); refine wpList_allocS _ zSgn rfl rfl ?_)
        | fail)
      intro w2 hb2 hg2 hs2
      obtain ⟨b6, hb6⟩ : ∃ b, b = wr.heap.size := ⟨_, rfl⟩
      rw [← hb6] at hb2 ⊢
      have HB2 := Lib.hid hb2
      have HG2 : Hid (Below w.heap.size w w2 ∧ w.heap.size ≤ b6) := Lib.hid ⟨below_trans HR.out (grown_below hg2 HR.out.size fun k e => by cases e), by have := HR.out.size; omega⟩
      clear hs2 hb2 hg2 hb6 HRG
      go_wp2_with (first
        | ((with_reducible show wpList _ _ _ (Oper.mk _ (Op.store 88 _ _) _ _ _ _ :: _) _ _); refine wpList_storeS sSgn rfl _ _ rfl b6 (sgv ⟨0, 0, 0⟩) (sgv x) rfl rfl HB2.out rfl rfl (sgv_one _) ?_)
        | fail)
      intro w3 hb3 hg3
      have HG3 : Hid (Below w.heap.size w w3) := Lib.hid (below_trans HG2.out.1 (grown_below hg3 HG2.out.1.size fun k e => by injection e with e; have := HG2.out.2; omega))
      have HB3 := Lib.hid hb3
      have HBF3 : Hid (Blk w3 bf (fcells F)) := Lib.hid (HBF.out.below HG3.out HBF.out.lt)
      clear hb3 hg3 HB2 HG2
      obtain ⟨nm, hnm⟩ : ∃ nm, nm = x.name := ⟨_, rfl⟩
      have HNM := Lib.hid hnm
      have M1 : Hid (∀ w', Below w3.heap.size w3 w' → w'.cell? ⟨b6, 0, none⟩ = some (.int .i64 nm)) := Lib.hid fun w' hb => (HB3.out.below hb HB3.out.lt).cell (by rw [hnm]; rfl)
      obtain ⟨hxi, hxe⟩ := HXI.out
      have hvd := vanish_drop (F := F) hxi
      rw [← hxe, ← hnm] at hvd
      by_cases hneg : nm < 0
      · have QN : Hid (nm < 0) := Lib.hid hneg
        have HE : Hid (vanishB F l = false) := Lib.hid (by rw [HV.out, hvd, decide_eq_false (by omega)]; rfl)
        clear hnm hneg hxn hxi hxe hvd
        go_wp2_with fail
        refine region_vals [.pointer (some ⟨b6, 0, none⟩), .int .i64 nm, .bool true, .bool true, undef, undef, undef, undef, undef, undef, undef, undef, .bool true] [some 13, some 14, some 15, some 16, some 17, some 18, some 19, some 20, some 21, some 22, some 23, some 24, some 25] (fun _ w' => Below w3.heap.size w3 w') (by kernel_rfl) (by kernel_rfl) (by kernel_rfl) rfl rfl (Below.refl _ _).drew (fun ii hii => ?_) ?_
        · match ii, hii with
          | 0, _ => exact vstep_pure rfl (vwant_none rfl) (fun _ _ h => h) (fun LL aa ww cc => ⟨.pointer (some ⟨b6, 0, none⟩), by have e0 : aa.tmps.getD 6 undef = .pointer (some ⟨b6, 0, none⟩) := (cc.orig 6 (by kernel_rfl)).trans rfl; simp only [execOp, Act.eval, e0]; go_simp, rfl⟩)
          | 1, _ => exact vstep_pure rfl (vwant_none rfl) (fun _ _ h => h) (fun LL aa ww cc => ⟨.int .i64 nm, by have e0 : aa.tmps.getD 13 undef = .pointer (some ⟨b6, 0, none⟩) := cc.slot 0 13 (by kernel_rfl) rfl; have m := M1.out _ cc.world; simp only [execOp, Act.eval, e0]; go_simp, rfl⟩)
          | 2, _ => exact vstep_pure rfl (vwant_none rfl) (fun _ _ h => h) (fun LL aa ww cc => ⟨.bool true, by have e0 : aa.tmps.getD 14 undef = .int .i64 nm := cc.slot 1 14 (by kernel_rfl) rfl; have q := QN.out; simp only [execOp, Act.eval, e0]; go_simp, rfl⟩)
          | 3, _ => exact vstep_copy rfl (vwant_none rfl) (fun _ _ h => h) 15 (Or.inl rfl) 2 (by kernel_rfl) rfl (fun _ h => h)
          | 4, _ => exact vstep_unwanted rfl 3 false 16 rfl (by kernel_rfl) rfl (fun _ h => Or.inl h) (by kernel_rfl) rfl (fun _ _ h => h)
          | 5, _ => exact vstep_unwanted rfl 3 false 16 rfl (by kernel_rfl) rfl (fun _ h => Or.inl h) (by kernel_rfl) rfl (fun _ _ h => h)
          | 6, _ => exact vstep_unwanted rfl 3 false 16 rfl (by kernel_rfl) rfl (fun _ h => Or.inl h) (by kernel_rfl) rfl (fun _ _ h => h)
          | 7, _ => exact vstep_unwanted rfl 3 false 16 rfl (by kernel_rfl) rfl (fun _ h => Or.inl h) (by kernel_rfl) rfl (fun _ _ h => h)
          | 8, _ => exact vstep_unwanted rfl 3 false 16 rfl (by kernel_rfl) rfl (fun _ h => Or.inl h) (by kernel_rfl) rfl (fun _ _ h => h)
          | 9, _ => exact vstep_unwanted rfl 3 false 16 rfl (by kernel_rfl) rfl (fun _ h => Or.inl h) (by kernel_rfl) rfl (fun _ _ h => h)
          | 10, _ => exact vstep_unwanted rfl 3 false 16 rfl (by kernel_rfl) rfl (fun _ h => Or.inl h) (by kernel_rfl) rfl (fun _ _ h => h)
          | 11, _ => exact vstep_unwanted rfl 3 false 16 rfl (by kernel_rfl) rfl (fun _ h => Or.inl h) (by kernel_rfl) rfl (fun _ _ h => h)
          | 12, _ => exact vstep_pure rfl (vwant_none rfl) (fun _ _ h => h) (fun LL aa ww cc => ⟨.bool true, by have e0 : aa.tmps.getD 16 undef = .bool true := cc.slot 3 16 (by kernel_rfl) rfl; simp only [execOp, Act.eval, e0]; go_simp, rfl⟩)
          | n + 13, h => exact absurd h (by show ¬ (n + 13 < 13); omega)
        · intro L9 w6 _ hj6
          have HJ6 : Hid (Below w.heap.size w w6) := Lib.hid (below_trans HG3.out (hj6.mono HG3.out.size))
          clear hj6
          refine (by assumption : ∀ (a : Act) (w : World), Code.wp _ _ _ a w → _) _ _ ?_
          simp only [List.zip_cons_cons, List.zip_nil_right, putsL]
          go_simp
          go_wp2
          go_ret
          exact ⟨show Ending.returned (.bool false) = .returned (.bool (vanishB F l)) by rw [HE.out], HJ6.out⟩
      · obtain ⟨n, rfl⟩ := Int.eq_ofNat_of_zero_le (show 0 ≤ nm by omega)
        have hn16 : n < 16 := by omega
        have QN : Hid (¬ (n : Int) < 0) := Lib.hid hneg
        have QI : Hid (n < 16) := Lib.hid hn16
        have hc := fc_null HF.out hn16
        rw [Int.toNat_natCast, decide_eq_true (by omega), Bool.true_and] at hvd
        cases hnu : F.nul n with
        | false =>
          rw [hnu] at hc hvd
          have M2 : Hid (∀ w', Below w3.heap.size w3 w' → w'.cell? ⟨bf, 16 + n, none⟩ = some (.bool false)) := Lib.hid fun w' hb => (HBF3.out.below hb HBF3.out.lt).cell hc
          have HE : Hid (vanishB F l = false) := Lib.hid (by rw [HV.out, hvd]; rfl)
          clear hnm hneg hxn hxi hxe hvd hn16 hc hnu
          go_wp2_with fail
          refine region_vals [.pointer (some ⟨b6, 0, none⟩), .int .i64 (n : Int), .bool false, .bool false, .pointer (some ⟨bf, 0, none⟩), .pointer (some ⟨b6, 0, none⟩), .int .i64 (n : Int), .pointer (some ⟨bf, 0, none⟩), .pointer (some ⟨bf, 16, none⟩), .pointer (some ⟨bf, 16 + n, none⟩), .bool false, .bool true, .bool true] [some 13, some 14, some 15, some 16, some 17, some 18, some 19, some 20, some 21, some 22, some 23, some 24, some 25] (fun _ w' => Below w3.heap.size w3 w') (by kernel_rfl) (by kernel_rfl) (by kernel_rfl) rfl rfl (Below.refl _ _).drew (fun ii hii => ?_) ?_
          · match ii, hii with
            | 0, _ => exact vstep_pure rfl (vwant_none rfl) (fun _ _ h => h) (fun LL aa ww cc => ⟨.pointer (some ⟨b6, 0, none⟩), by have e0 : aa.tmps.getD 6 undef = .pointer (some ⟨b6, 0, none⟩) := (cc.orig 6 (by kernel_rfl)).trans rfl; simp only [execOp, Act.eval, e0]; go_simp, rfl⟩)
            | 1, _ => exact vstep_pure rfl (vwant_none rfl) (fun _ _ h => h) (fun LL aa ww cc => ⟨.int .i64 (n : Int), by have e0 : aa.tmps.getD 13 undef = .pointer (some ⟨b6, 0, none⟩) := cc.slot 0 13 (by kernel_rfl) rfl; have m := M1.out _ cc.world; simp only [execOp, Act.eval, e0]; go_simp, rfl⟩)
            | 2, _ => exact vstep_pure rfl (vwant_none rfl) (fun _ _ h => h) (fun LL aa ww cc => ⟨.bool false, by have e0 : aa.tmps.getD 14 undef = .int .i64 (n : Int) := cc.slot 1 14 (by kernel_rfl) rfl; have q := QN.out; simp only [execOp, Act.eval, e0]; go_simp, rfl⟩)
            | 3, _ => exact vstep_copy rfl (vwant_none rfl) (fun _ _ h => h) 15 (Or.inl rfl) 2 (by kernel_rfl) rfl (fun _ h => h)
            | 4, _ => exact vstep_first rfl (vwant 3 false 16 rfl (by kernel_rfl) rfl (fun _ h => h) (by kernel_rfl)) (fun _ _ h => h) 0 (Or.inl rfl) (by kernel_rfl) rfl
            | 5, _ => exact vstep_pure rfl (vwant 3 false 16 rfl (by kernel_rfl) rfl (fun _ h => h) (by kernel_rfl)) (fun _ _ h => h) (fun LL aa ww cc => ⟨.pointer (some ⟨b6, 0, none⟩), by have e0 : aa.tmps.getD 6 undef = .pointer (some ⟨b6, 0, none⟩) := (cc.orig 6 (by kernel_rfl)).trans rfl; simp only [execOp, Act.eval, e0]; go_simp, rfl⟩)
            | 6, _ => exact vstep_pure rfl (vwant 3 false 16 rfl (by kernel_rfl) rfl (fun _ h => h) (by kernel_rfl)) (fun _ _ h => h) (fun LL aa ww cc => ⟨.int .i64 (n : Int), by have e0 : aa.tmps.getD 18 undef = .pointer (some ⟨b6, 0, none⟩) := cc.slot 5 18 (by kernel_rfl) rfl; have m := M1.out _ cc.world; simp only [execOp, Act.eval, e0]; go_simp, rfl⟩)
            | 7, _ => exact vstep_pure rfl (vwant 3 false 16 rfl (by kernel_rfl) rfl (fun _ h => h) (by kernel_rfl)) (fun _ _ h => h) (fun LL aa ww cc => ⟨.pointer (some ⟨bf, 0, none⟩), by have e0 : aa.tmps.getD 17 undef = .pointer (some ⟨bf, 0, none⟩) := cc.slot 4 17 (by kernel_rfl) rfl; simp only [execOp, Act.eval, e0]; go_simp, rfl⟩)
            | 8, _ => exact vstep_pure rfl (vwant 3 false 16 rfl (by kernel_rfl) rfl (fun _ h => h) (by kernel_rfl)) (fun _ _ h => h) (fun LL aa ww cc => ⟨.pointer (some ⟨bf, 16, none⟩), by have e0 : aa.tmps.getD 20 undef = .pointer (some ⟨bf, 0, none⟩) := cc.slot 7 20 (by kernel_rfl) rfl; simp only [execOp, Act.eval, e0]; go_simp, rfl⟩)
            | 9, _ => exact vstep_pure rfl (vwant 3 false 16 rfl (by kernel_rfl) rfl (fun _ h => h) (by kernel_rfl)) (fun _ _ h => h) (fun LL aa ww cc => ⟨.pointer (some ⟨bf, 16 + n, none⟩), by have e0 : aa.tmps.getD 21 undef = .pointer (some ⟨bf, 16, none⟩) := cc.slot 8 21 (by kernel_rfl) rfl; have e1 : aa.tmps.getD 19 undef = .int .i64 (n : Int) := cc.slot 6 19 (by kernel_rfl) rfl; have qi := QI.out; have q : (n : Int) < 16 := (by omega); simp only [execOp, Act.eval, e0, e1]; go_simp, rfl⟩)
            | 10, _ => exact vstep_pure rfl (vwant 3 false 16 rfl (by kernel_rfl) rfl (fun _ h => h) (by kernel_rfl)) (fun _ _ h => h) (fun LL aa ww cc => ⟨.bool false, by have e0 : aa.tmps.getD 22 undef = .pointer (some ⟨bf, 16 + n, none⟩) := cc.slot 9 22 (by kernel_rfl) rfl; have m := M2.out _ cc.world; simp only [execOp, Act.eval, e0]; go_simp, rfl⟩)
            | 11, _ => exact vstep_pure rfl (vwant 3 false 16 rfl (by kernel_rfl) rfl (fun _ h => h) (by kernel_rfl)) (fun _ _ h => h) (fun LL aa ww cc => ⟨.bool true, by have e0 : aa.tmps.getD 23 undef = .bool false := cc.slot 10 23 (by kernel_rfl) rfl; simp only [execOp, Act.eval, e0]; go_simp, rfl⟩)
            | 12, _ => exact vstep_pure rfl (vwant_none rfl) (fun _ _ h => h) (fun LL aa ww cc => ⟨.bool true, by have e0 : aa.tmps.getD 16 undef = .bool false := cc.slot 3 16 (by kernel_rfl) rfl; have e1 : aa.tmps.getD 24 undef = .bool true := cc.slot 11 24 (by kernel_rfl) rfl; simp only [execOp, Act.eval, e0, e1]; go_simp, rfl⟩)
            | n + 13, h => exact absurd h (by show ¬ (n + 13 < 13); omega)
          · intro L9 w6 _ hj6
            have HJ6 : Hid (Below w.heap.size w w6) := Lib.hid (below_trans HG3.out (hj6.mono HG3.out.size))
            clear hj6
            refine (by assumption : ∀ (a : Act) (w : World), Code.wp _ _ _ a w → _) _ _ ?_
            simp only [List.zip_cons_cons, List.zip_nil_right, putsL]
            go_simp
            go_wp2
            go_ret
            exact ⟨show Ending.returned (.bool false) = .returned (.bool (vanishB F l)) by rw [HE.out], HJ6.out⟩
        | true =>
          rw [hnu] at hc hvd
          have M2 : Hid (∀ w', Below w3.heap.size w3 w' → w'.cell? ⟨bf, 16 + n, none⟩ = some (.bool true)) := Lib.hid fun w' hb => (HBF3.out.below hb HBF3.out.lt).cell hc
          have HE : Hid (vanishB F l = vanishB F (l.drop (i + 1))) := Lib.hid (by rw [HV.out, hvd]; rfl)
          clear hnm hneg hxn hxi hxe hvd hn16 hc hnu
          go_wp2_with fail
          refine region_vals [.pointer (some ⟨b6, 0, none⟩), .int .i64 (n : Int), .bool false, .bool false, .pointer (some ⟨bf, 0, none⟩), .pointer (some ⟨b6, 0, none⟩), .int .i64 (n : Int), .pointer (some ⟨bf, 0, none⟩), .pointer (some ⟨bf, 16, none⟩), .pointer (some ⟨bf, 16 + n, none⟩), .bool true, .bool false, .bool false] [some 13, some 14, some 15, some 16, some 17, some 18, some 19, some 20, some 21, some 22, some 23, some 24, some 25] (fun _ w' => Below w3.heap.size w3 w') (by kernel_rfl) (by kernel_rfl) (by kernel_rfl) rfl rfl (Below.refl _ _).drew (fun ii hii => ?_) ?_
          · match ii, hii with
            | 0, _ => exact vstep_pure rfl (vwant_none rfl) (fun _ _ h => h) (fun LL aa ww cc => ⟨.pointer (some ⟨b6, 0, none⟩), by have e0 : aa.tmps.getD 6 undef = .pointer (some ⟨b6, 0, none⟩) := (cc.orig 6 (by kernel_rfl)).trans rfl; simp only [execOp, Act.eval, e0]; go_simp, rfl⟩)
            | 1, _ => exact vstep_pure rfl (vwant_none rfl) (fun _ _ h => h) (fun LL aa ww cc => ⟨.int .i64 (n : Int), by have e0 : aa.tmps.getD 13 undef = .pointer (some ⟨b6, 0, none⟩) := cc.slot 0 13 (by kernel_rfl) rfl; have m := M1.out _ cc.world; simp only [execOp, Act.eval, e0]; go_simp, rfl⟩)
            | 2, _ => exact vstep_pure rfl (vwant_none rfl) (fun _ _ h => h) (fun LL aa ww cc => ⟨.bool false, by have e0 : aa.tmps.getD 14 undef = .int .i64 (n : Int) := cc.slot 1 14 (by kernel_rfl) rfl; have q := QN.out; simp only [execOp, Act.eval, e0]; go_simp, rfl⟩)
            | 3, _ => exact vstep_copy rfl (vwant_none rfl) (fun _ _ h => h) 15 (Or.inl rfl) 2 (by kernel_rfl) rfl (fun _ h => h)
            | 4, _ => exact vstep_first rfl (vwant 3 false 16 rfl (by kernel_rfl) rfl (fun _ h => h) (by kernel_rfl)) (fun _ _ h => h) 0 (Or.inl rfl) (by kernel_rfl) rfl
            | 5, _ => exact vstep_pure rfl (vwant 3 false 16 rfl (by kernel_rfl) rfl (fun _ h => h) (by kernel_rfl)) (fun _ _ h => h) (fun LL aa ww cc => ⟨.pointer (some ⟨b6, 0, none⟩), by have e0 : aa.tmps.getD 6 undef = .pointer (some ⟨b6, 0, none⟩) := (cc.orig 6 (by kernel_rfl)).trans rfl; simp only [execOp, Act.eval, e0]; go_simp, rfl⟩)
            | 6, _ => exact vstep_pure rfl (vwant 3 false 16 rfl (by kernel_rfl) rfl (fun _ h => h) (by kernel_rfl)) (fun _ _ h => h) (fun LL aa ww cc => ⟨.int .i64 (n : Int), by have e0 : aa.tmps.getD 18 undef = .pointer (some ⟨b6, 0, none⟩) := cc.slot 5 18 (by kernel_rfl) rfl; have m := M1.out _ cc.world; simp only [execOp, Act.eval, e0]; go_simp, rfl⟩)
            | 7, _ => exact vstep_pure rfl (vwant 3 false 16 rfl (by kernel_rfl) rfl (fun _ h => h) (by kernel_rfl)) (fun _ _ h => h) (fun LL aa ww cc => ⟨.pointer (some ⟨bf, 0, none⟩), by have e0 : aa.tmps.getD 17 undef = .pointer (some ⟨bf, 0, none⟩) := cc.slot 4 17 (by kernel_rfl) rfl; simp only [execOp, Act.eval, e0]; go_simp, rfl⟩)
            | 8, _ => exact vstep_pure rfl (vwant 3 false 16 rfl (by kernel_rfl) rfl (fun _ h => h) (by kernel_rfl)) (fun _ _ h => h) (fun LL aa ww cc => ⟨.pointer (some ⟨bf, 16, none⟩), by have e0 : aa.tmps.getD 20 undef = .pointer (some ⟨bf, 0, none⟩) := cc.slot 7 20 (by kernel_rfl) rfl; simp only [execOp, Act.eval, e0]; go_simp, rfl⟩)
            | 9, _ => exact vstep_pure rfl (vwant 3 false 16 rfl (by kernel_rfl) rfl (fun _ h => h) (by kernel_rfl)) (fun _ _ h => h) (fun LL aa ww cc => ⟨.pointer (some ⟨bf, 16 + n, none⟩), by have e0 : aa.tmps.getD 21 undef = .pointer (some ⟨bf, 16, none⟩) := cc.slot 8 21 (by kernel_rfl) rfl; have e1 : aa.tmps.getD 19 undef = .int .i64 (n : Int) := cc.slot 6 19 (by kernel_rfl) rfl; have qi := QI.out; have q : (n : Int) < 16 := (by omega); simp only [execOp, Act.eval, e0, e1]; go_simp, rfl⟩)
            | 10, _ => exact vstep_pure rfl (vwant 3 false 16 rfl (by kernel_rfl) rfl (fun _ h => h) (by kernel_rfl)) (fun _ _ h => h) (fun LL aa ww cc => ⟨.bool true, by have e0 : aa.tmps.getD 22 undef = .pointer (some ⟨bf, 16 + n, none⟩) := cc.slot 9 22 (by kernel_rfl) rfl; have m := M2.out _ cc.world; simp only [execOp, Act.eval, e0]; go_simp, rfl⟩)
            | 11, _ => exact vstep_pure rfl (vwant 3 false 16 rfl (by kernel_rfl) rfl (fun _ h => h) (by kernel_rfl)) (fun _ _ h => h) (fun LL aa ww cc => ⟨.bool false, by have e0 : aa.tmps.getD 23 undef = .bool true := cc.slot 10 23 (by kernel_rfl) rfl; simp only [execOp, Act.eval, e0]; go_simp, rfl⟩)
            | 12, _ => exact vstep_pure rfl (vwant_none rfl) (fun _ _ h => h) (fun LL aa ww cc => ⟨.bool false, by have e0 : aa.tmps.getD 16 undef = .bool false := cc.slot 3 16 (by kernel_rfl) rfl; have e1 : aa.tmps.getD 24 undef = .bool false := cc.slot 11 24 (by kernel_rfl) rfl; simp only [execOp, Act.eval, e0, e1]; go_simp, rfl⟩)
            | n + 13, h => exact absurd h (by show ¬ (n + 13 < 13); omega)
          · intro L9 w6 _ hj6
            have HJ6 : Hid (Below w.heap.size w w6) := Lib.hid (below_trans HG3.out (hj6.mono HG3.out.size))
            clear hj6
            refine (by assumption : ∀ (a : Act) (w : World), Code.wp _ _ _ a w → _) _ _ ?_
            simp only [List.zip_cons_cons, List.zip_nil_right, putsL]
            go_simp
            go_wp2
            go_roundw
            case rel => exact ⟨i + 1, by omega, by go_num, HJ6.out, HE.out⟩
            case measure => simp [intOf]; omega
    · have HE : Hid (vanishB F l = true) := Lib.hid (by
        rw [HV.out, List.drop_of_length_le (by have := HLL.out; omega)]; rfl)
      go_wp2
      go_ret
      exact ⟨show Ending.returned (.bool true) = .returned (.bool (vanishB F l)) by rw [HE.out], HR.out⟩
end Go.Proofs.YtiebpmpjclnpeaaDoor
