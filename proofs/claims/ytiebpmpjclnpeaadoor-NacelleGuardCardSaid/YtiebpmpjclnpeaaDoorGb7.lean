/- Bundle 7 of the texts GStep2, GStep3, GGrow, GStudy, GStudy2, LoadSw, GClash. -/
import Derived.Test.YtiebpmpjclnpeaaDoorGb6
import Derived.Deep.LoopGhost
import Derived.Test.YtiebpmpjclnpeaaDoorGb1
/- study's second step: the first bytes. -/
namespace Go.Proofs.YtiebpmpjclnpeaaDoor
open Go.RowKit Nac Nac.Gram
section
variable {w : World} {ops : Array Oper} {rest : List Oper} {o : Oper} {a : Act} {Q : Exit → Act → World → Prop} {T : TypeId} {n : Nat}
theorem wpList_storeM (hS : SInfo T n) (hg : o.guard = none) (x y : Operand) (hop : o.op = .store T x y) (b k : Nat) (cs0 cs : List Value) (hx : a.eval x = .pointer (some ⟨b, k, none⟩)) (hy : a.eval y = .agg cs.toArray) (hb : Blk w b cs0) (hl0 : k + n ≤ cs0.length) (hl : cs.length = n) (h1 : ∀ v ∈ cs, v.oneCell' = true)
    (h : ∀ w', Blk w' b (cs0.take k ++ cs ++ cs0.drop (k + cs.length)) → w.grownBy w' (some b) → wpList Tryd.prog ops Q rest (a.put o.dst undef) w') : wpList Tryd.prog ops Q (o :: rest) a w :=
  wpList_store_mid hg T x y hop b k cs.toArray hx hy (hb.there k _ (by simpa [hl] using hl0)) (by rw [hS.info]; simp [hl]) (all_oneCell_toArray h1)
    (h _ (by simpa using hb.setCells cs k (by omega)) (by simpa using grown_setCells b cs k w))
end
set_option maxRecDepth 100000 in
set_option maxHeartbeats 2000000 in
theorem step2_calls (w : World) (F : Fx) (bf B : Nat) (f : Frm) (A : Option Addr) (c : Nat) (hF : F.Ok) (hf : Blk w bf (fcells F)) (hl : RS w B A f.body) (hB : B ≤ bf) (hn : f.name < 16) (hs : ∀ x ∈ f.body, x.name < 16) (hby : ∀ x ∈ f.body, x.low < 256 ∧ x.high < 256) (hm : f.body.length ≤ 9223372036854775807) :
    Calls Tryd.prog 41 #[.agg (frv f A c).toArray, .pointer (some ⟨bf, 0, none⟩)] w (Stepped w bf (step2 f F)) := by
  have HFO := Lib.hid hF
  have HN16 := Lib.hid hs
  have HBY := Lib.hid hby
  have HBb := Lib.hid hB
  obtain ⟨n, hnn⟩ : ∃ n, n = f.name := ⟨_, rfl⟩
  have HNN := Lib.hid hnn
  have QI : Hid (n < 16) := Lib.hid (by omega)
  obtain ⟨L, hL⟩ : ∃ L, L = f.body.length := ⟨_, rfl⟩
  have HLL := Lib.hid hL
  have HM := Lib.hid hm
  have HRS0 := Lib.hid hl
  have HBF0 := Lib.hid hf
  clear hF hs hby hB hnn hL hn hm hl hf
  go_enter Tryd.func41, Tryd.ntmps41
  go_wp2_with (first | ((with_reducible show wpList _ _ _ (Oper.mk (some 2) (Op.box 105 _) _ _ _ _ :: _) _ _); refine wpList_boxS (T := 105) rfl _ rfl (frv f A c) rfl ?_) | fail)
  intro w1 hb1 hg1 hs1
  obtain ⟨b2, hb2⟩ : ∃ b, b = w.heap.size := ⟨_, rfl⟩
  rw [← hb2] at hb1 ⊢
  have HB2 := Lib.hid hb1
  have HG1 : Hid (w.grownBy w1 (some bf)) := Lib.hid (grown_none hg1)
  have HBF : Hid (Blk w1 bf (fcells F)) := Lib.hid (HBF0.out.grown hg1 (fun e => by cases e))
  have HNE : Hid (b2 ≠ bf) := Lib.hid (by have := HBF0.out.lt; omega)
  have HRS : Hid (RS w1 B A f.body) := Lib.hid (HRS0.out.grown HG1.out HBb.out)
  have HBW : Hid (B ≤ w1.heap.size) := Lib.hid (by have := HBF.out.lt; have := HBb.out; omega)
  clear hb1 hg1 hs1 hb2 HRS0 HBF0
  have N1 : Hid (∀ w', Below w1.drew.heap.size w1.drew w' → w'.cell? ⟨b2, 0, none⟩ = some (.int .i64 (n : Int))) := Lib.hid fun w' hb => (HB2.out.drew.below hb HB2.out.lt).cell (by rw [HNN.out]; rfl)
  have NB : Hid (∀ w', Below w1.drew.heap.size w1.drew w' → w'.cell? ⟨b2, 1, none⟩ = some (.slice A L c)) := Lib.hid fun w' hb => (HB2.out.drew.below hb HB2.out.lt).cell (by rw [HLL.out]; rfl)
  obtain ⟨sv, hsv⟩ : ∃ sv, sv = startS F f.body := ⟨_, rfl⟩
  have HSV := Lib.hid hsv
  have HSO : Hid sv.ok := Lib.hid (by rw [hsv]; exact startS_ok HFO.out fun x hx => (HBY.out x hx).2)
  have CL : Hid (∀ w', Below w1.drew.heap.size w1.drew w' → Calls Tryd.prog 34 #[.pointer (some ⟨bf, 0, none⟩), .slice A L c] w' fun e w'' => ∃ v, e = .returned v ∧ (VD.is (.agg (scs sv).toArray)).ok v w'' ∧ Below w'.heap.size w' w'') := Lib.hid fun w' hb => by
    rw [hsv, HLL.out]
    exact (start_calls w' F bf A c f.body HFO.out (HBF.out.drew.below hb HBF.out.lt) ((HRS.out.below (below_trans (drew_below _ _) hb) HBW.out).mono (Nat.le_trans HBW.out hb.size)) HN16.out HBY.out HM.out).mono fun _ _ h => h.ex
  have ORN : Hid (∀ w', Below w1.drew.heap.size w1.drew w' → Calls Tryd.prog 42 #[.agg (scs (F.fst n)).toArray, .agg (scs sv).toArray] w' fun e w'' => ∃ v, e = .returned v ∧ (VD.is (.agg (scs ((F.fst n).or sv)).toArray)).ok v w'' ∧ Below w'.heap.size w' w'') := Lib.hid fun w' _ => (or_calls w' (F.fst n) sv (ok_getD HFO.out.fs n) HSO.out).mono fun _ _ h => h.ex
  have LF : Hid (∀ w', Below w1.drew.heap.size w1.drew w' → (Instr.loadAt 71 (.pointer (some ⟨bf, 32 + n * 4, none⟩))).run Tryd.prog w' = .ok (.agg (scs (F.fst n)).toArray) w') := Lib.hid fun w' hb => run_loadAtS sS4 w' bf (32 + n * 4) _ ((HBF.out.drew.below hb HBF.out.lt).range _ _ (fc_first HFO.out QI.out)) rfl
  have HVV : Hid (step2 f F = { F with first := F.first.set n ((F.fst n).or sv) }) := Lib.hid (by unfold step2 Fx.fst; rw [← HNN.out, HSV.out])
  clear hsv
  go_wp2_with fail
  refine region_tails 13 (fun ix9 => ([.is (.pointer (some ⟨b2, 0, none⟩)), .is (.int .i64 (n : Int)), .is (.pointer (some ⟨b2, 0, none⟩)), .is (.int .i64 (n : Int)), .is (.pointer (some ⟨bf, 32, none⟩)), .is (.pointer (some ⟨bf, 32 + n * 4, none⟩)), .is (.agg (scs (F.fst n)).toArray), .is (.pointer (some ⟨b2, 1, none⟩)), .is (.slice A L c), .is (.agg (scs sv).toArray), .is (.agg (scs ((F.fst n).or sv)).toArray), .is (.pointer (some ⟨bf, 32, none⟩)), .is (.pointer (some ⟨bf, 32 + n * 4, none⟩))] : List VD).getD ix9 (.is undef)) [some 3, some 4, some 5, some 6, some 7, some 8, some 9, some 10, some 11, some 12, some 13, some 14, some 15] (by kernel_rfl) (by kernel_rfl) (by kernel_rfl) (by kernel_rfl) rfl (fun ii hii => ?_) ?_
  · match ii, hii with
    | 0, _ => exact mstep_pure rfl (mwant_none rfl) (fun aa ww cc => ⟨.pointer (some ⟨b2, 0, none⟩), by have e0 : aa.tmps.getD 2 undef = .pointer (some ⟨b2, 0, none⟩) := (cc.orig 2 (by kernel_rfl)).trans rfl; simp only [execOp, Act.eval, e0]; go_simp, rfl⟩)
    | 1, _ => exact mstep_pure rfl (mwant_none rfl) (fun aa ww cc => ⟨.int .i64 (n : Int), by have e0 : aa.tmps.getD 3 undef = .pointer (some ⟨b2, 0, none⟩) := cc.slot 0 3 (by kernel_rfl) rfl; have m := N1.out _ cc.below; simp only [execOp, Act.eval, e0]; go_simp, rfl⟩)
    | 2, _ => exact mstep_pure rfl (mwant_none rfl) (fun aa ww cc => ⟨.pointer (some ⟨b2, 0, none⟩), by have e0 : aa.tmps.getD 2 undef = .pointer (some ⟨b2, 0, none⟩) := (cc.orig 2 (by kernel_rfl)).trans rfl; simp only [execOp, Act.eval, e0]; go_simp, rfl⟩)
    | 3, _ => exact mstep_pure rfl (mwant_none rfl) (fun aa ww cc => ⟨.int .i64 (n : Int), by have e0 : aa.tmps.getD 5 undef = .pointer (some ⟨b2, 0, none⟩) := cc.slot 2 5 (by kernel_rfl) rfl; have m := N1.out _ cc.below; simp only [execOp, Act.eval, e0]; go_simp, rfl⟩)
    | 4, _ => exact mstep_pure rfl (mwant_none rfl) (fun aa ww cc => ⟨.pointer (some ⟨bf, 32, none⟩), by have e0 : aa.tmps.getD 1 undef = .pointer (some ⟨bf, 0, none⟩) := (cc.orig 1 (by kernel_rfl)).trans rfl; simp only [execOp, Act.eval, e0]; go_simp, rfl⟩)
    | 5, _ => exact mstep_pure rfl (mwant_none rfl) (fun aa ww cc => ⟨.pointer (some ⟨bf, 32 + n * 4, none⟩), by have e0 : aa.tmps.getD 7 undef = .pointer (some ⟨bf, 32, none⟩) := cc.slot 4 7 (by kernel_rfl) rfl; have e1 : aa.tmps.getD 6 undef = .int .i64 (n : Int) := cc.slot 3 6 (by kernel_rfl) rfl; have qi := QI.out; have q : (n : Int) < 16 := (by omega); simp only [execOp, Act.eval, e0, e1]; go_simp, rfl⟩)
    | 6, _ => exact mstep_load rfl (mwant_none rfl) 8 _ rfl 5 (by kernel_rfl) rfl _ _ rfl rfl (fun w hb => LF.out w hb)
    | 7, _ => exact mstep_pure rfl (mwant_none rfl) (fun aa ww cc => ⟨.pointer (some ⟨b2, 1, none⟩), by have e0 : aa.tmps.getD 2 undef = .pointer (some ⟨b2, 0, none⟩) := (cc.orig 2 (by kernel_rfl)).trans rfl; simp only [execOp, Act.eval, e0]; go_simp, rfl⟩)
    | 8, _ => exact mstep_pure rfl (mwant_none rfl) (fun aa ww cc => ⟨.slice A L c, by have e0 : aa.tmps.getD 10 undef = .pointer (some ⟨b2, 1, none⟩) := cc.slot 7 10 (by kernel_rfl) rfl; have m := NB.out _ cc.below; simp only [execOp, Act.eval, e0]; go_simp, rfl⟩)
    | 9, _ => exact mstep_call rfl (mwant_none rfl) _ _ _ rfl (enters_of Tryd.func34 (by kernel_rfl) rfl) (fun aa ww cc => by have e0 : aa.tmps.getD 1 undef = .pointer (some ⟨bf, 0, none⟩) := (cc.orig 1 (by kernel_rfl)).trans rfl; have e1 : aa.tmps.getD 11 undef = .slice A L c := cc.slot 8 11 (by kernel_rfl) rfl; simp only [List.map_toArray, List.map_cons, List.map_nil, Act.eval, e0, e1]; exact (CL.out) ww cc.below)
    | 10, _ => exact mstep_call rfl (mwant_none rfl) _ _ _ rfl (enters_of Tryd.func42 (by kernel_rfl) rfl) (fun aa ww cc => by have e0 : aa.tmps.getD 9 undef = .agg (scs (F.fst n)).toArray := cc.slot 6 9 (by kernel_rfl) rfl; have e1 : aa.tmps.getD 12 undef = .agg (scs sv).toArray := cc.slot 9 12 (by kernel_rfl) rfl; simp only [List.map_toArray, List.map_cons, List.map_nil, Act.eval, e0, e1]; exact (ORN.out) ww cc.below)
    | 11, _ => exact mstep_pure rfl (mwant_none rfl) (fun aa ww cc => ⟨.pointer (some ⟨bf, 32, none⟩), by have e0 : aa.tmps.getD 1 undef = .pointer (some ⟨bf, 0, none⟩) := (cc.orig 1 (by kernel_rfl)).trans rfl; simp only [execOp, Act.eval, e0]; go_simp, rfl⟩)
    | 12, _ => exact mstep_pure rfl (mwant_none rfl) (fun aa ww cc => ⟨.pointer (some ⟨bf, 32 + n * 4, none⟩), by have e0 : aa.tmps.getD 14 undef = .pointer (some ⟨bf, 32, none⟩) := cc.slot 11 14 (by kernel_rfl) rfl; have e1 : aa.tmps.getD 4 undef = .int .i64 (n : Int) := cc.slot 1 4 (by kernel_rfl) rfl; have qi := QI.out; have q : (n : Int) < 16 := (by omega); simp only [execOp, Act.eval, e0, e1]; go_simp, rfl⟩)
    | n + 13, h => exact absurd h (by show ¬ (n + 13 < 13); omega)
  · intro VV w5 hlen hb5 hok
    match VV, hlen with
    | [v0, v1, v2, v3, v4, v5, v6, v7, v8, v9, v10, v11, v12], _ =>
      obtain rfl : v0 = .pointer (some ⟨b2, 0, none⟩) := hok 0 3 rfl
      obtain rfl : v1 = .int .i64 (n : Int) := hok 1 4 rfl
      obtain rfl : v2 = .pointer (some ⟨b2, 0, none⟩) := hok 2 5 rfl
      obtain rfl : v3 = .int .i64 (n : Int) := hok 3 6 rfl
      obtain rfl : v4 = .pointer (some ⟨bf, 32, none⟩) := hok 4 7 rfl
      obtain rfl : v5 = .pointer (some ⟨bf, 32 + n * 4, none⟩) := hok 5 8 rfl
      obtain rfl : v6 = .agg (scs (F.fst n)).toArray := hok 6 9 rfl
      obtain rfl : v7 = .pointer (some ⟨b2, 1, none⟩) := hok 7 10 rfl
      obtain rfl : v8 = .slice A L c := hok 8 11 rfl
      obtain rfl : v9 = .agg (scs sv).toArray := hok 9 12 rfl
      obtain rfl : v10 = .agg (scs ((F.fst n).or sv)).toArray := hok 10 13 rfl
      obtain rfl : v11 = .pointer (some ⟨bf, 32, none⟩) := hok 11 14 rfl
      obtain rfl : v12 = .pointer (some ⟨bf, 32 + n * 4, none⟩) := hok 12 15 rfl
      have HBF5 : Hid (Blk w5 bf (fcells F)) := Lib.hid (HBF.out.below hb5 HBF.out.lt)
      have HG5 : Hid (w1.grownBy w5 (some bf)) := Lib.hid (grownBy_below hb5 (Nat.le_refl _))
      clear hb5 hok N1 NB CL ORN LF HB2 HBF
      simp only [List.zip_cons_cons, List.zip_nil_right, putsL]
      go_simp
      go_wp2_with ((with_reducible show wpList _ _ _ (Oper.mk _ (Op.store _ _ _) _ _ _ _ :: _) _ _); refine wpList_storeM sS4 rfl _ _ rfl bf (32 + n * 4) _ (scs ((F.fst n).or sv)) rfl rfl HBF5.out (by rw [fcells_len HFO.out]; have := QI.out; omega) rfl (wcs_one _) ?_)
      intro w6 hb6 hg6
      have HBF8 : Hid (Blk w6 bf (fcells (step2 f F))) := Lib.hid (by rw [HVV.out, ← fset_first HFO.out QI.out, List.append_assoc]; exact hb6)
      have HG8 : Hid (w.grownBy w6 (some bf)) := Lib.hid (HG1.out.trans (HG5.out.trans hg6))
      clear hb6 hg6 HBF5 HG5
      go_wp2
      go_end0
      exact ⟨rfl, HBF8.out, HG8.out⟩
end Go.Proofs.YtiebpmpjclnpeaaDoor
/- study's third step: what follows. -/
namespace Nac.Gram
theorem fol_drop {l : List Sgn} {i : Nat} (h : i < l.length) (n : Nat) (F : Fx) : folL n (l.drop i) F = folL n (l.drop (i + 1)) (fol1 n l[i] (l.drop (i + 1)) F) := by
  rw [List.drop_eq_getElem_cons h]; rfl
end Nac.Gram
namespace Go.Proofs.YtiebpmpjclnpeaaDoor
open Go.RowKit Nac Nac.Gram
def sliceAdr (A : Option Addr) (c i n : Nat) : Option Addr := if c = i then A else A.map (·.add (i * n))
theorem run_sliceLo {T e : TypeId} {n : Nat} (hu : Tryd.prog.underlying T = some (.slice e)) (hz : (Tryd.prog.info? e).map (·.size) = some n) (w : World) (A : Option Addr) (L c i : Nat) (hi : i ≤ L) : (Instr.sliceAt T (.slice A L c) (some (.int .i64 (i : Int))) Option.none Option.none).run Tryd.prog w = .ok (.slice (sliceAdr A c i n) (L - i) (c - i)) w := by
  cases hq : Tryd.prog.info? e with
  | none => simp [hq] at hz
  | some t =>
    have hs : t.size = n := by simpa [hq] using hz
    simp [Instr.sliceAt, sliceAdr, Instr.slice, run_underlying hu, Instr.sliceBounds, Instr.sliceBound, asIntOf, Go.sizeOf, typeInfo, hq, hs, hi]
section
variable {w : World} {ops : Array Oper} {rest : List Oper} {o : Oper} {a : Act} {Q : Exit → Act → World → Prop}
theorem wpList_sliceLo {T e : TypeId} {n : Nat} (hu : Tryd.prog.underlying T = some (.slice e)) (hz : (Tryd.prog.info? e).map (·.size) = some n) (hg : o.guard = Option.none) (x y : Operand) (hop : o.op = .slice T x (some y) Option.none Option.none) (A : Option Addr) (L c i : Nat) (hx : a.eval x = .slice A L c) (hy : a.eval y = .int .i64 (i : Int)) (hi : i ≤ L)
    (h : ∀ A2, Hid (A2 = sliceAdr A c i n) → wpList Tryd.prog ops Q rest (a.put o.dst (.slice A2 (L - i) (c - i))) w) : wpList Tryd.prog ops Q (o :: rest) a w :=
  wpList_plain hg fun _ hK => by
    unfold Oper.wp execOp
    simp only [hop, hx, hy, Option.map_some, Option.map_none, Sem.run_bind, run_sliceLo hu hz w A L c i hi, Result.andThen_ok]
    exact hK _ _ (h _ (Lib.hid rfl))
end
theorem uSgns : Tryd.prog.underlying 89 = some (.slice 88) := by kernel_rfl
theorem RS.drop {w : World} {B g k : Nat} {l : List Sgn} {i : Nat} (h : RS w B (some ⟨g, k, .none⟩) l) : RS w B (some ⟨g, k + i * 3, .none⟩) (l.drop i) := fun hne => by
  have hl : i < l.length := by
    apply Classical.byContradiction
    intro hh
    exact hne (List.drop_of_length_le (by omega))
  obtain ⟨g', k', hA, hgB, hgs, hr⟩ := h (by rintro rfl; simp at hl)
  injection hA with hA
  injection hA with e1 e2
  subst e1 e2
  refine ⟨_, _, rfl, hgB, hgs, fun j hj => ?_⟩
  have hj' : i + j < l.length := by simpa [Nat.lt_sub_iff_add_lt, Nat.add_comm] using hj
  have := hr (i + j) hj'
  rw [show k + i * 3 + j * 3 = k + (i + j) * 3 by omega, List.getElem_drop]
  exact this
set_option maxRecDepth 100000 in
set_option maxHeartbeats 2000000 in
theorem step3_calls (w : World) (F : Fx) (bf B : Nat) (f : Frm) (A : Option Addr) (c : Nat) (hF : F.Ok) (hf : Blk w bf (fcells F)) (hl : RS w B A f.body) (hB : B ≤ bf) (hn : f.name < 16) (hs : ∀ x ∈ f.body, x.name < 16) (hby : ∀ x ∈ f.body, x.low < 256 ∧ x.high < 256) (hm : f.body.length ≤ c) (hc : c ≤ 9223372036854775807) :
    Calls Tryd.prog 43 #[.agg (frv f A c).toArray, .pointer (some ⟨bf, 0, none⟩)] w (Stepped w bf (step3 f F)) := by
  have HFO := Lib.hid hF
  have HN16 := Lib.hid hs
  have HBY := Lib.hid hby
  have HBb := Lib.hid hB
  obtain ⟨n, hnn⟩ : ∃ n, n = f.name := ⟨_, rfl⟩
  have HNN := Lib.hid hnn
  have QI : Hid (n < 16) := Lib.hid (by omega)
  obtain ⟨L, hL⟩ : ∃ L, L = f.body.length := ⟨_, rfl⟩
  have HLL := Lib.hid hL
  have HM := Lib.hid hm
  have HC := Lib.hid hc
  have HRS0 := Lib.hid hl
  have HBF0 := Lib.hid hf
  clear hF hs hby hB hnn hL hn hm hl hf hc
  go_enter Tryd.func43, Tryd.ntmps43
  go_wp2_with (first | ((with_reducible show wpList _ _ _ (Oper.mk (some 2) (Op.box 105 _) _ _ _ _ :: _) _ _); refine wpList_boxS (T := 105) rfl _ rfl (frv f A c) rfl ?_) | fail)
  intro w1 hb1 hg1 hs1
  obtain ⟨b2, hb2⟩ : ∃ b, b = w.heap.size := ⟨_, rfl⟩
  rw [← hb2] at hb1 ⊢
  have HB2 := Lib.hid hb1
  have HG1 : Hid (w.grownBy w1 (some bf)) := Lib.hid (grown_none hg1)
  have HBF : Hid (Blk w1 bf (fcells F)) := Lib.hid (HBF0.out.grown hg1 (fun e => by cases e))
  have HNE : Hid (b2 ≠ bf) := Lib.hid (by have := HBF0.out.lt; omega)
  have HRS : Hid (RS w1 B A f.body) := Lib.hid (HRS0.out.grown HG1.out HBb.out)
  have HBW : Hid (B ≤ w1.heap.size) := Lib.hid (by have := HBF.out.lt; have := HBb.out; omega)
  clear hb1 hg1 hs1 hb2 HRS0 HBF0
  have hb20 : w1.cell? ⟨b2, 1, none⟩ = some (.slice A L c) := HB2.out.cell (by rw [HLL.out]; rfl)
  have hlb : L ≤ 9223372036854775807 := by have := HM.out; have := HC.out; have := HLL.out; omega
  go_wp2
  clear hb20
  go_loopw [9] (fun s9 wr => ∃ (i : Nat) (F1 : Fx), i ≤ L ∧ s9 = .int .i64 (i : Int) ∧ F1.Ok ∧ Blk wr bf (fcells F1) ∧ w1.grownBy wr (some bf) ∧ step3 f F = folL n (f.body.drop i) F1) (fun s9 _ => L - (intOf s9).toNat)
  case atStart => exact ⟨0, F, Nat.zero_le _, rfl, HFO.out, HBF.out, World.grownBy.refl _ _, by rw [HNN.out]; rfl⟩
  case round =>
    obtain ⟨i, F1, hi, rfl, hfo1, hbf, hg, hv⟩ := hrel
    have HF1 := Lib.hid hfo1
    have HR := Lib.hid hbf
    have HG := Lib.hid hg
    have HV := Lib.hid hv
    clear hfo1 hbf hg hv
    by_cases hlt : i < L
    · have hil : i < f.body.length := by rw [← HLL.out]; exact hlt
      obtain ⟨g, k, hA, hgB, hgs, hrow⟩ := HRS.out (by intro e; rw [e] at hil; simp at hil)
      subst hA
      obtain ⟨x, hx⟩ : ∃ x, x = f.body[i] := ⟨_, rfl⟩
      have HXI : Hid (∃ h : i < f.body.length, x = f.body[i]) := Lib.hid ⟨hil, hx⟩
      have HRSr : Hid (RS wr B (some ⟨g, k, none⟩) f.body) := Lib.hid (HRS.out.grown HG.out HBb.out)
      have HRG : Hid (wr.rangeAt g (k + i * 3) (sgv x)) := Lib.hid (by
        obtain ⟨g', k', hA', _, _, hrow'⟩ := HRSr.out (by intro e; rw [e] at hil; simp at hil)
        injection hA' with hA'
        injection hA' with e1 e2
        subst e1 e2
        rw [hx]
        exact hrow' i hil)
      have hxn : x.name < 16 := HN16.out x (by rw [hx]; exact List.getElem_mem hil)
      clear hx hrow hgB hgs hil
      go_wp2_with (first
        | ((with_reducible show wpList _ _ _ (Oper.mk _ (Op.load 88 _) _ _ _ _ :: _) _ _); refine wpList_loadM sSgn rfl _ rfl g (k + i * 3) (sgv x) rfl HRG.out rfl ?_)
        | ((with_reducible show wpList _ _ _ (Oper.mk _ (Op.alloc 88) _ _ _ _ :: _) _ _); refine wpList_allocS _ zSgn rfl rfl ?_)
        | fail)
      intro w2 hb2 hg2 hs2
      obtain ⟨b4, hb4⟩ : ∃ b, b = wr.heap.size := ⟨_, rfl⟩
      rw [← hb4] at hb2 ⊢
      have HB4 := Lib.hid hb2
      have HG2 : Hid (w1.grownBy w2 (some bf)) := Lib.hid (HG.out.trans (grown_none hg2))
      have HBF2 : Hid (Blk w2 bf (fcells F1)) := Lib.hid (HR.out.grown hg2 (fun e => by cases e))
      have HN4 : Hid (b4 ≠ bf ∧ w1.heap.size ≤ b4) := Lib.hid (by have := HR.out.lt; have := HG.out.size; exact ⟨by omega, by omega⟩)
      clear hs2 hb2 hg2 hb4 HRG HRSr
      go_wp2_with (first
        | ((with_reducible show wpList _ _ _ (Oper.mk _ (Op.store 88 _ _) _ _ _ _ :: _) _ _); refine wpList_storeS sSgn rfl _ _ rfl b4 (sgv ⟨0, 0, 0⟩) (sgv x) rfl rfl HB4.out rfl rfl (sgv_one _) ?_)
        | fail)
      intro w3 hb3 hg3
      have HG3 : Hid (w1.grownBy w3 (some bf)) := Lib.hid ⟨hg3.os.trans HG2.out.os, hg3.tape.trans HG2.out.tape, hg3.output.trans HG2.out.output, Nat.le_trans HG2.out.size hg3.size, fun k hk hne => (hg3.block k (Nat.lt_of_lt_of_le hk HG2.out.size) (fun e => by injection e with e; have := HN4.out.2; omega)).trans (HG2.out.block k hk hne)⟩
      have HBF3 : Hid (Blk w3 bf (fcells F1)) := Lib.hid (HBF2.out.grown hg3 (fun e => by injection e with e; exact HN4.out.1 e))
      have HB43 := Lib.hid hb3
      have HB23 : Hid (Blk w3 b2 (frv f (some ⟨g, k, none⟩) c)) := Lib.hid (HB2.out.grown HG3.out (fun e => by injection e with e; exact HNE.out e.symm))
      have HRS3 : Hid (RS w3 B (some ⟨g, k, none⟩) f.body) := Lib.hid (HRS.out.grown HG3.out HBb.out)
      have HBW3 : Hid (B ≤ w3.heap.size) := Lib.hid (Nat.le_trans HBW.out HG3.out.size)
      clear hb3 hg3 HB4 HG2 HBF2 HG HR
      obtain ⟨nm, hnm⟩ : ∃ nm, nm = x.name := ⟨_, rfl⟩
      have hc0 : w3.cell? ⟨b4, 0, none⟩ = some (.int .i64 nm) := HB43.out.cell (by rw [hnm]; rfl)
      have hc1 : w3.cell? ⟨b2, 1, none⟩ = some (.slice (some ⟨g, k, none⟩) L c) := HB23.out.cell (by rw [HLL.out]; rfl)
      obtain ⟨hxi, hxe⟩ := HXI.out
      have hfd := fol_drop hxi n F1
      rw [← hxe] at hfd
      have HFD := Lib.hid hfd
      clear hfd hxi hxe
      by_cases hneg : nm < 0
      · have HE : Hid (step3 f F = folL n (f.body.drop (i + 1)) F1) := Lib.hid (by rw [HV.out, HFD.out]; unfold fol1; rw [← hnm, if_pos hneg])
        clear hnm
        go_wp2
        go_roundw
        case rel => exact ⟨i + 1, F1, by omega, by go_num, HF1.out, HBF3.out, HG3.out, HE.out⟩
        case measure => simp [intOf]; omega
      · obtain ⟨m, rfl⟩ := Int.eq_ofNat_of_zero_le (show 0 ≤ nm by omega)
        have QM : Hid (m < 16) := Lib.hid (by omega)
        have hLc : L ≤ c := by rw [HLL.out]; exact HM.out
        have hcm := HC.out
        go_wp2_with ((with_reducible show wpList _ _ _ (Oper.mk _ (Op.slice _ _ _ _ _) _ _ _ _ :: _) _ _); refine wpList_sliceLo uSgns sSgn.info rfl _ _ rfl (some ⟨g, k, none⟩) L c (i + 1) rfl rfl (by omega) ?_)
        intro A2 hA2
        have HRR : Hid (RS w3 B A2 (f.body.drop (i + 1))) := Lib.hid (by
          rw [hA2.out]
          unfold sliceAdr
          split
          · rename_i hci
            rw [List.drop_of_length_le (by have := HLL.out; omega)]
            exact RS.none
          · have := HRS3.out.drop (i := i + 1)
            rw [show (Option.map (·.add ((i + 1) * 3)) (some (⟨g, k, none⟩ : Addr))) = some ⟨g, k + (i + 1) * 3, none⟩ by rw [Option.map_some, Addr.add_mid]]
            exact this)
        clear hA2 hc0 hc1
        obtain ⟨l2, hl2⟩ : ∃ l2, l2 = f.body.drop (i + 1) := ⟨_, rfl⟩
        obtain ⟨L2, hL2⟩ : ∃ L2, L2 = L - (i + 1) := ⟨_, rfl⟩
        obtain ⟨c2, hc2⟩ : ∃ c2, c2 = c - (i + 1) := ⟨_, rfl⟩
        have HL2 : Hid (L2 = l2.length) := Lib.hid (by rw [hL2, hl2, List.length_drop, HLL.out])
        have HLM : Hid (l2.length ≤ 9223372036854775807) := Lib.hid (by rw [hl2, List.length_drop, ← HLL.out]; omega)
        have HNX : Hid ((m : Int) = x.name) := Lib.hid hnm
        have HNN2 : Hid (∀ y ∈ l2, y.name < 16) := Lib.hid fun y hy => HN16.out y (List.mem_of_mem_drop (by rw [hl2] at hy; exact hy))
        have HBY2 : Hid (∀ y ∈ l2, y.low < 256 ∧ y.high < 256) := Lib.hid fun y hy => HBY.out y (List.mem_of_mem_drop (by rw [hl2] at hy; exact hy))
        rw [← hl2] at HRR HFD
        rw [← hL2, ← hc2]
        have HL2D : Hid (l2 = f.body.drop (i + 1)) := Lib.hid hl2
        have HNG : Hid (¬ (m : Int) < 0) := Lib.hid (by omega)
        clear hl2 hL2 hc2 hnm hxn hneg
        have N1 : Hid (∀ w', Below w3.drew.heap.size w3.drew w' → w'.cell? ⟨b4, 0, none⟩ = some (.int .i64 (m : Int))) := Lib.hid fun w' hb => (HB43.out.drew.below hb HB43.out.lt).cell (by rw [HNX.out]; rfl)
        obtain ⟨sv, hsv⟩ : ∃ sv, sv = startS F1 l2 := ⟨_, rfl⟩
        have HSV := Lib.hid hsv
        have HSO : Hid sv.ok := Lib.hid (by rw [hsv]; exact startS_ok HF1.out fun y hy => (HBY2.out y hy).2)
        have CL : Hid (∀ w', Below w3.drew.heap.size w3.drew w' → Calls Tryd.prog 34 #[.pointer (some ⟨bf, 0, none⟩), .slice A2 L2 c2] w' fun e w'' => ∃ v, e = .returned v ∧ (VD.is (.agg (scs sv).toArray)).ok v w'' ∧ Below w'.heap.size w' w'') := Lib.hid fun w' hb => by
          rw [hsv, HL2.out]
          exact (start_calls w' F1 bf A2 c2 l2 HF1.out (HBF3.out.drew.below hb HBF3.out.lt) ((HRR.out.below (below_trans (drew_below _ _) hb) HBW3.out).mono (Nat.le_trans HBW3.out hb.size)) HNN2.out HBY2.out HLM.out).mono fun _ _ h => h.ex
        have ORN : Hid (∀ w', Below w3.drew.heap.size w3.drew w' → Calls Tryd.prog 42 #[.agg (scs (F1.fol m)).toArray, .agg (scs sv).toArray] w' fun e w'' => ∃ v, e = .returned v ∧ (VD.is (.agg (scs ((F1.fol m).or sv)).toArray)).ok v w'' ∧ Below w'.heap.size w' w'') := Lib.hid fun w' _ => (or_calls w' (F1.fol m) sv (ok_getD HF1.out.os m) HSO.out).mono fun _ _ h => h.ex
        have LF : Hid (∀ w', Below w3.drew.heap.size w3.drew w' → (Instr.loadAt 71 (.pointer (some ⟨bf, 96 + m * 4, none⟩))).run Tryd.prog w' = .ok (.agg (scs (F1.fol m)).toArray) w') := Lib.hid fun w' hb => run_loadAtS sS4 w' bf (96 + m * 4) _ ((HBF3.out.drew.below hb HBF3.out.lt).range _ _ (fc_follow HF1.out QM.out)) rfl
        obtain ⟨F2, hF2⟩ : ∃ F2 : Fx, F2 = { F1 with follow := F1.follow.set m ((F1.fol m).or sv) } := ⟨_, rfl⟩
        have HF2 : Hid F2.Ok := Lib.hid (by rw [hF2]; exact ok_follow HF1.out m (S4.ok_or (ok_getD HF1.out.os m) HSO.out))
        have HFC2 : Hid ((fcells F1).take (96 + m * 4) ++ scs ((F1.fol m).or sv) ++ (fcells F1).drop (96 + m * 4 + (scs ((F1.fol m).or sv)).length) = fcells F2) := Lib.hid (by rw [hF2, fset_follow HF1.out QM.out])
        have HVV : Hid (fol1 n x l2 F1 = if vanishB F2 l2 = true then { F2 with follow := F2.follow.set m ((F2.fol m).or (F2.fol n)) } else F2) := Lib.hid (by
          have e : x.name.toNat = m := by rw [← HNX.out]; rfl
          unfold fol1
          rw [if_neg (by rw [← HNX.out]; exact HNG.out), e, hF2, hsv]
          rfl)
        clear hF2 hsv
        go_wp2_with fail
        refine region_tails 12 (fun ix9 => ([.is (.pointer (some ⟨b4, 0, none⟩)), .is (.int .i64 (m : Int)), .is (.pointer (some ⟨b4, 0, none⟩)), .is (.int .i64 (m : Int)), .is (.pointer (some ⟨bf, 96, none⟩)), .is (.pointer (some ⟨bf, 96 + m * 4, none⟩)), .is (.agg (scs (F1.fol m)).toArray), .is (.slice A2 L2 c2), .is (.agg (scs sv).toArray), .is (.agg (scs ((F1.fol m).or sv)).toArray), .is (.pointer (some ⟨bf, 96, none⟩)), .is (.pointer (some ⟨bf, 96 + m * 4, none⟩))] : List VD).getD ix9 (.is undef)) [some 22, some 23, some 24, some 25, some 26, some 27, some 28, some 29, some 30, some 31, some 32, some 33] (by kernel_rfl) (by kernel_rfl) (by kernel_rfl) (by kernel_rfl) rfl (fun ii hii => ?_) ?_
        · match ii, hii with
          | 0, _ => exact mstep_pure rfl (mwant_none rfl) (fun aa ww cc => ⟨.pointer (some ⟨b4, 0, none⟩), by have e0 : aa.tmps.getD 4 undef = .pointer (some ⟨b4, 0, none⟩) := (cc.orig 4 (by kernel_rfl)).trans rfl; simp only [execOp, Act.eval, e0]; go_simp, rfl⟩)
          | 1, _ => exact mstep_pure rfl (mwant_none rfl) (fun aa ww cc => ⟨.int .i64 (m : Int), by have e0 : aa.tmps.getD 22 undef = .pointer (some ⟨b4, 0, none⟩) := cc.slot 0 22 (by kernel_rfl) rfl; have m1 := N1.out _ cc.below; simp only [execOp, Act.eval, e0]; go_simp, rfl⟩)
          | 2, _ => exact mstep_pure rfl (mwant_none rfl) (fun aa ww cc => ⟨.pointer (some ⟨b4, 0, none⟩), by have e0 : aa.tmps.getD 4 undef = .pointer (some ⟨b4, 0, none⟩) := (cc.orig 4 (by kernel_rfl)).trans rfl; simp only [execOp, Act.eval, e0]; go_simp, rfl⟩)
          | 3, _ => exact mstep_pure rfl (mwant_none rfl) (fun aa ww cc => ⟨.int .i64 (m : Int), by have e0 : aa.tmps.getD 24 undef = .pointer (some ⟨b4, 0, none⟩) := cc.slot 2 24 (by kernel_rfl) rfl; have m1 := N1.out _ cc.below; simp only [execOp, Act.eval, e0]; go_simp, rfl⟩)
          | 4, _ => exact mstep_pure rfl (mwant_none rfl) (fun aa ww cc => ⟨.pointer (some ⟨bf, 96, none⟩), by have e0 : aa.tmps.getD 1 undef = .pointer (some ⟨bf, 0, none⟩) := (cc.orig 1 (by kernel_rfl)).trans rfl; simp only [execOp, Act.eval, e0]; go_simp, rfl⟩)
          | 5, _ => exact mstep_pure rfl (mwant_none rfl) (fun aa ww cc => ⟨.pointer (some ⟨bf, 96 + m * 4, none⟩), by have e0 : aa.tmps.getD 26 undef = .pointer (some ⟨bf, 96, none⟩) := cc.slot 4 26 (by kernel_rfl) rfl; have e1 : aa.tmps.getD 25 undef = .int .i64 (m : Int) := cc.slot 3 25 (by kernel_rfl) rfl; have qi := QM.out; have q : (m : Int) < 16 := (by omega); simp only [execOp, Act.eval, e0, e1]; go_simp, rfl⟩)
          | 6, _ => exact mstep_load rfl (mwant_none rfl) 27 _ rfl 5 (by kernel_rfl) rfl _ _ rfl rfl (fun w hb => LF.out w hb)
          | 7, _ => exact mstep_first rfl (mwant_none rfl) 5 (Or.inl rfl) (by kernel_rfl) (fun _ _ => rfl)
          | 8, _ => exact mstep_call rfl (mwant_none rfl) _ _ _ rfl (enters_of Tryd.func34 (by kernel_rfl) rfl) (fun aa ww cc => by have e0 : aa.tmps.getD 1 undef = .pointer (some ⟨bf, 0, none⟩) := (cc.orig 1 (by kernel_rfl)).trans rfl; have e1 : aa.tmps.getD 29 undef = .slice A2 L2 c2 := cc.slot 7 29 (by kernel_rfl) rfl; simp only [List.map_toArray, List.map_cons, List.map_nil, Act.eval, e0, e1]; exact (CL.out) ww cc.below)
          | 9, _ => exact mstep_call rfl (mwant_none rfl) _ _ _ rfl (enters_of Tryd.func42 (by kernel_rfl) rfl) (fun aa ww cc => by have e0 : aa.tmps.getD 28 undef = .agg (scs (F1.fol m)).toArray := cc.slot 6 28 (by kernel_rfl) rfl; have e1 : aa.tmps.getD 30 undef = .agg (scs sv).toArray := cc.slot 8 30 (by kernel_rfl) rfl; simp only [List.map_toArray, List.map_cons, List.map_nil, Act.eval, e0, e1]; exact (ORN.out) ww cc.below)
          | 10, _ => exact mstep_pure rfl (mwant_none rfl) (fun aa ww cc => ⟨.pointer (some ⟨bf, 96, none⟩), by have e0 : aa.tmps.getD 1 undef = .pointer (some ⟨bf, 0, none⟩) := (cc.orig 1 (by kernel_rfl)).trans rfl; simp only [execOp, Act.eval, e0]; go_simp, rfl⟩)
          | 11, _ => exact mstep_pure rfl (mwant_none rfl) (fun aa ww cc => ⟨.pointer (some ⟨bf, 96 + m * 4, none⟩), by have e0 : aa.tmps.getD 32 undef = .pointer (some ⟨bf, 96, none⟩) := cc.slot 10 32 (by kernel_rfl) rfl; have e1 : aa.tmps.getD 23 undef = .int .i64 (m : Int) := cc.slot 1 23 (by kernel_rfl) rfl; have qi := QM.out; have q : (m : Int) < 16 := (by omega); simp only [execOp, Act.eval, e0, e1]; go_simp, rfl⟩)
          | n + 12, h => exact absurd h (by show ¬ (n + 12 < 12); omega)
        · intro VV w5 hlen hb5 hok
          match VV, hlen with
          | [v0, v1, v2, v3, v4, v5, v6, v7, v8, v9, v10, v11], _ =>
            obtain rfl : v0 = .pointer (some ⟨b4, 0, none⟩) := hok 0 22 rfl
            obtain rfl : v1 = .int .i64 (m : Int) := hok 1 23 rfl
            obtain rfl : v2 = .pointer (some ⟨b4, 0, none⟩) := hok 2 24 rfl
            obtain rfl : v3 = .int .i64 (m : Int) := hok 3 25 rfl
            obtain rfl : v4 = .pointer (some ⟨bf, 96, none⟩) := hok 4 26 rfl
            obtain rfl : v5 = .pointer (some ⟨bf, 96 + m * 4, none⟩) := hok 5 27 rfl
            obtain rfl : v6 = .agg (scs (F1.fol m)).toArray := hok 6 28 rfl
            obtain rfl : v7 = .slice A2 L2 c2 := hok 7 29 rfl
            obtain rfl : v8 = .agg (scs sv).toArray := hok 8 30 rfl
            obtain rfl : v9 = .agg (scs ((F1.fol m).or sv)).toArray := hok 9 31 rfl
            obtain rfl : v10 = .pointer (some ⟨bf, 96, none⟩) := hok 10 32 rfl
            obtain rfl : v11 = .pointer (some ⟨bf, 96 + m * 4, none⟩) := hok 11 33 rfl
            have HBF5 : Hid (Blk w5 bf (fcells F1)) := Lib.hid (HBF3.out.below hb5 HBF3.out.lt)
            have HG5 : Hid (w1.grownBy w5 (some bf)) := Lib.hid (HG3.out.trans (grownBy_below (B := w3.heap.size) hb5 (Nat.le_refl _)))
            have HB45 : Hid (Blk w5 b4 (sgv x)) := Lib.hid (HB43.out.below hb5 HB43.out.lt)
            have HB25 : Hid (Blk w5 b2 (frv f (some ⟨g, k, none⟩) c)) := Lib.hid (HB23.out.below hb5 HB23.out.lt)
            have HRR5 : Hid (RS w5 B A2 l2) := Lib.hid (HRR.out.below hb5 HBW3.out)
            have HBW5 : Hid (B ≤ w5.heap.size) := Lib.hid (Nat.le_trans HBW3.out hb5.size)
            clear hb5 hok N1 CL ORN LF HB43 HBF3 HB23 HRR HBW3 HG3 HRS3
            simp only [List.zip_cons_cons, List.zip_nil_right, putsL]
            go_simp
            go_wp2_with ((with_reducible show wpList _ _ _ (Oper.mk _ (Op.store _ _ _) _ _ _ _ :: _) _ _); refine wpList_storeM sS4 rfl _ _ rfl bf (96 + m * 4) _ (scs ((F1.fol m).or sv)) rfl rfl HBF5.out (by rw [fcells_len HF1.out]; have := QM.out; omega) rfl (wcs_one _) ?_)
            intro w6 hb6 hg6
            have HBF6 : Hid (Blk w6 bf (fcells F2)) := Lib.hid (by rw [← HFC2.out, List.append_assoc]; exact hb6)
            have HG6 : Hid (w1.grownBy w6 (some bf)) := Lib.hid (HG5.out.trans hg6)
            have HB46 : Hid (Blk w6 b4 (sgv x)) := Lib.hid (HB45.out.grown hg6 (fun e => by injection e with e; exact HN4.out.1 e.symm))
            have HB26 : Hid (Blk w6 b2 (frv f (some ⟨g, k, none⟩) c)) := Lib.hid (HB25.out.grown hg6 (fun e => by injection e with e; exact HNE.out e.symm))
            have HRR6 : Hid (RS w6 B A2 l2) := Lib.hid (HRR5.out.grown hg6 HBb.out)
            have HBW6 : Hid (B ≤ w6.heap.size) := Lib.hid (Nat.le_trans HBW5.out hg6.size)
            have HN46 : Hid (b4 < w6.heap.size) := Lib.hid HB46.out.lt
            clear hb6 hg6 HBF5 HG5 HB45 HB25 HRR5 HBW5 HFC2
            obtain ⟨vb, hvb⟩ : ∃ vb, vb = vanishB F2 l2 := ⟨_, rfl⟩
            have HVB := Lib.hid hvb
            clear hvb
            go_wp2_with fail
            rw [HL2.out]
            refine (vanishes_calls w6 F2 bf A2 c2 l2 HF2.out HBF6.out (HRR6.out.mono HBW6.out) HNN2.out HLM.out).mono ?_
            rintro e w7 ⟨rfl, hb7⟩
            have HBF7 : Hid (Blk w7 bf (fcells F2)) := Lib.hid (HBF6.out.below hb7 HBF6.out.lt)
            have HG7 : Hid (w1.grownBy w7 (some bf)) := Lib.hid (HG6.out.trans (grownBy_below hb7 (Nat.le_refl _)))
            have HB47 : Hid (Blk w7 b4 (sgv x)) := Lib.hid (HB46.out.below hb7 HB46.out.lt)
            have HB27 : Hid (Blk w7 b2 (frv f (some ⟨g, k, none⟩) c)) := Lib.hid (HB26.out.below hb7 HB26.out.lt)
            clear hb7 HBF6 HG6 HB46 HB26 HRR6 HBW6 HN46
            rw [← HVB.out]
            cases vb with
            | false =>
              have HE : Hid (step3 f F = folL n (f.body.drop (i + 1)) F2) := Lib.hid (by rw [HV.out, HFD.out, HVV.out, ← HVB.out, if_neg (by decide), ← HL2D.out])
              clear HVV
              go_wp2
              go_roundw
              case rel => exact ⟨i + 1, F2, by omega, by go_num, HF2.out, HBF7.out, HG7.out, HE.out⟩
              case measure => simp [intOf]; omega
            | true =>
              have N1 : Hid (∀ w', Below w7.drew.heap.size w7.drew w' → w'.cell? ⟨b4, 0, none⟩ = some (.int .i64 (m : Int))) := Lib.hid fun w' hb => (HB47.out.drew.below hb HB47.out.lt).cell (by rw [HNX.out]; rfl)
              have N2 : Hid (∀ w', Below w7.drew.heap.size w7.drew w' → w'.cell? ⟨b2, 0, none⟩ = some (.int .i64 (n : Int))) := Lib.hid fun w' hb => (HB27.out.drew.below hb HB27.out.lt).cell (by rw [HNN.out]; rfl)
              have ORN : Hid (∀ w', Below w7.drew.heap.size w7.drew w' → Calls Tryd.prog 42 #[.agg (scs (F2.fol m)).toArray, .agg (scs (F2.fol n)).toArray] w' fun e w'' => ∃ v, e = .returned v ∧ (VD.is (.agg (scs ((F2.fol m).or (F2.fol n))).toArray)).ok v w'' ∧ Below w'.heap.size w' w'') := Lib.hid fun w' _ => (or_calls w' (F2.fol m) (F2.fol n) (ok_getD HF2.out.os m) (ok_getD HF2.out.os n)).mono fun _ _ h => h.ex
              have LF : Hid (∀ w', Below w7.drew.heap.size w7.drew w' → (Instr.loadAt 71 (.pointer (some ⟨bf, 96 + m * 4, none⟩))).run Tryd.prog w' = .ok (.agg (scs (F2.fol m)).toArray) w') := Lib.hid fun w' hb => run_loadAtS sS4 w' bf (96 + m * 4) _ ((HBF7.out.drew.below hb HBF7.out.lt).range _ _ (fc_follow HF2.out QM.out)) rfl
              have LG : Hid (∀ w', Below w7.drew.heap.size w7.drew w' → (Instr.loadAt 71 (.pointer (some ⟨bf, 96 + n * 4, none⟩))).run Tryd.prog w' = .ok (.agg (scs (F2.fol n)).toArray) w') := Lib.hid fun w' hb => run_loadAtS sS4 w' bf (96 + n * 4) _ ((HBF7.out.drew.below hb HBF7.out.lt).range _ _ (fc_follow HF2.out QI.out)) rfl
              obtain ⟨F3, hF3⟩ : ∃ F3 : Fx, F3 = { F2 with follow := F2.follow.set m ((F2.fol m).or (F2.fol n)) } := ⟨_, rfl⟩
              have HF3 : Hid F3.Ok := Lib.hid (by rw [hF3]; exact ok_follow HF2.out m (S4.ok_or (ok_getD HF2.out.os m) (ok_getD HF2.out.os n)))
              have HFC3 : Hid ((fcells F2).take (96 + m * 4) ++ scs ((F2.fol m).or (F2.fol n)) ++ (fcells F2).drop (96 + m * 4 + (scs ((F2.fol m).or (F2.fol n))).length) = fcells F3) := Lib.hid (by rw [hF3, fset_follow HF2.out QM.out])
              have HE : Hid (step3 f F = folL n (f.body.drop (i + 1)) F3) := Lib.hid (by rw [HV.out, HFD.out, HVV.out, ← HVB.out, if_pos rfl, hF3, ← HL2D.out])
              clear hF3 HVV
              go_wp2_with fail
              refine region_tails 15 (fun ix9 => ([.is (.pointer (some ⟨b4, 0, none⟩)), .is (.int .i64 (m : Int)), .is (.pointer (some ⟨b4, 0, none⟩)), .is (.int .i64 (m : Int)), .is (.pointer (some ⟨bf, 96, none⟩)), .is (.pointer (some ⟨bf, 96 + m * 4, none⟩)), .is (.agg (scs (F2.fol m)).toArray), .is (.pointer (some ⟨b2, 0, none⟩)), .is (.int .i64 (n : Int)), .is (.pointer (some ⟨bf, 96, none⟩)), .is (.pointer (some ⟨bf, 96 + n * 4, none⟩)), .is (.agg (scs (F2.fol n)).toArray), .is (.agg (scs ((F2.fol m).or (F2.fol n))).toArray), .is (.pointer (some ⟨bf, 96, none⟩)), .is (.pointer (some ⟨bf, 96 + m * 4, none⟩))] : List VD).getD ix9 (.is undef)) [some 36, some 37, some 38, some 39, some 40, some 41, some 42, some 43, some 44, some 45, some 46, some 47, some 48, some 49, some 50] (by kernel_rfl) (by kernel_rfl) (by kernel_rfl) (by kernel_rfl) rfl (fun ii hii => ?_) ?_
              · match ii, hii with
                | 0, _ => exact mstep_pure rfl (mwant_none rfl) (fun aa ww cc => ⟨.pointer (some ⟨b4, 0, none⟩), by have e0 : aa.tmps.getD 4 undef = .pointer (some ⟨b4, 0, none⟩) := (cc.orig 4 (by kernel_rfl)).trans rfl; simp only [execOp, Act.eval, e0]; go_simp, rfl⟩)
                | 1, _ => exact mstep_pure rfl (mwant_none rfl) (fun aa ww cc => ⟨.int .i64 (m : Int), by have e0 : aa.tmps.getD 36 undef = .pointer (some ⟨b4, 0, none⟩) := cc.slot 0 36 (by kernel_rfl) rfl; have m1 := N1.out _ cc.below; simp only [execOp, Act.eval, e0]; go_simp, rfl⟩)
                | 2, _ => exact mstep_pure rfl (mwant_none rfl) (fun aa ww cc => ⟨.pointer (some ⟨b4, 0, none⟩), by have e0 : aa.tmps.getD 4 undef = .pointer (some ⟨b4, 0, none⟩) := (cc.orig 4 (by kernel_rfl)).trans rfl; simp only [execOp, Act.eval, e0]; go_simp, rfl⟩)
                | 3, _ => exact mstep_pure rfl (mwant_none rfl) (fun aa ww cc => ⟨.int .i64 (m : Int), by have e0 : aa.tmps.getD 38 undef = .pointer (some ⟨b4, 0, none⟩) := cc.slot 2 38 (by kernel_rfl) rfl; have m1 := N1.out _ cc.below; simp only [execOp, Act.eval, e0]; go_simp, rfl⟩)
                | 4, _ => exact mstep_pure rfl (mwant_none rfl) (fun aa ww cc => ⟨.pointer (some ⟨bf, 96, none⟩), by have e0 : aa.tmps.getD 1 undef = .pointer (some ⟨bf, 0, none⟩) := (cc.orig 1 (by kernel_rfl)).trans rfl; simp only [execOp, Act.eval, e0]; go_simp, rfl⟩)
                | 5, _ => exact mstep_pure rfl (mwant_none rfl) (fun aa ww cc => ⟨.pointer (some ⟨bf, 96 + m * 4, none⟩), by have e0 : aa.tmps.getD 40 undef = .pointer (some ⟨bf, 96, none⟩) := cc.slot 4 40 (by kernel_rfl) rfl; have e1 : aa.tmps.getD 39 undef = .int .i64 (m : Int) := cc.slot 3 39 (by kernel_rfl) rfl; have qi := QM.out; have q : (m : Int) < 16 := (by omega); simp only [execOp, Act.eval, e0, e1]; go_simp, rfl⟩)
                | 6, _ => exact mstep_load rfl (mwant_none rfl) 41 _ rfl 5 (by kernel_rfl) rfl _ _ rfl rfl (fun w hb => LF.out w hb)
                | 7, _ => exact mstep_pure rfl (mwant_none rfl) (fun aa ww cc => ⟨.pointer (some ⟨b2, 0, none⟩), by have e0 : aa.tmps.getD 2 undef = .pointer (some ⟨b2, 0, none⟩) := (cc.orig 2 (by kernel_rfl)).trans rfl; simp only [execOp, Act.eval, e0]; go_simp, rfl⟩)
                | 8, _ => exact mstep_pure rfl (mwant_none rfl) (fun aa ww cc => ⟨.int .i64 (n : Int), by have e0 : aa.tmps.getD 43 undef = .pointer (some ⟨b2, 0, none⟩) := cc.slot 7 43 (by kernel_rfl) rfl; have m1 := N2.out _ cc.below; simp only [execOp, Act.eval, e0]; go_simp, rfl⟩)
                | 9, _ => exact mstep_pure rfl (mwant_none rfl) (fun aa ww cc => ⟨.pointer (some ⟨bf, 96, none⟩), by have e0 : aa.tmps.getD 1 undef = .pointer (some ⟨bf, 0, none⟩) := (cc.orig 1 (by kernel_rfl)).trans rfl; simp only [execOp, Act.eval, e0]; go_simp, rfl⟩)
                | 10, _ => exact mstep_pure rfl (mwant_none rfl) (fun aa ww cc => ⟨.pointer (some ⟨bf, 96 + n * 4, none⟩), by have e0 : aa.tmps.getD 45 undef = .pointer (some ⟨bf, 96, none⟩) := cc.slot 9 45 (by kernel_rfl) rfl; have e1 : aa.tmps.getD 44 undef = .int .i64 (n : Int) := cc.slot 8 44 (by kernel_rfl) rfl; have qi := QI.out; have q : (n : Int) < 16 := (by omega); simp only [execOp, Act.eval, e0, e1]; go_simp, rfl⟩)
                | 11, _ => exact mstep_load rfl (mwant_none rfl) 46 _ rfl 10 (by kernel_rfl) rfl _ _ rfl rfl (fun w hb => LG.out w hb)
                | 12, _ => exact mstep_call rfl (mwant_none rfl) _ _ _ rfl (enters_of Tryd.func42 (by kernel_rfl) rfl) (fun aa ww cc => by have e0 : aa.tmps.getD 42 undef = .agg (scs (F2.fol m)).toArray := cc.slot 6 42 (by kernel_rfl) rfl; have e1 : aa.tmps.getD 47 undef = .agg (scs (F2.fol n)).toArray := cc.slot 11 47 (by kernel_rfl) rfl; simp only [List.map_toArray, List.map_cons, List.map_nil, Act.eval, e0, e1]; exact (ORN.out) ww cc.below)
                | 13, _ => exact mstep_pure rfl (mwant_none rfl) (fun aa ww cc => ⟨.pointer (some ⟨bf, 96, none⟩), by have e0 : aa.tmps.getD 1 undef = .pointer (some ⟨bf, 0, none⟩) := (cc.orig 1 (by kernel_rfl)).trans rfl; simp only [execOp, Act.eval, e0]; go_simp, rfl⟩)
                | 14, _ => exact mstep_pure rfl (mwant_none rfl) (fun aa ww cc => ⟨.pointer (some ⟨bf, 96 + m * 4, none⟩), by have e0 : aa.tmps.getD 49 undef = .pointer (some ⟨bf, 96, none⟩) := cc.slot 13 49 (by kernel_rfl) rfl; have e1 : aa.tmps.getD 37 undef = .int .i64 (m : Int) := cc.slot 1 37 (by kernel_rfl) rfl; have qi := QM.out; have q : (m : Int) < 16 := (by omega); simp only [execOp, Act.eval, e0, e1]; go_simp, rfl⟩)
                | n + 15, h => exact absurd h (by show ¬ (n + 15 < 15); omega)
              · intro VV w5 hlen hb5 hok
                match VV, hlen with
                | [v0, v1, v2, v3, v4, v5, v6, v7, v8, v9, v10, v11, v12, v13, v14], _ =>
                  obtain rfl : v0 = .pointer (some ⟨b4, 0, none⟩) := hok 0 36 rfl
                  obtain rfl : v1 = .int .i64 (m : Int) := hok 1 37 rfl
                  obtain rfl : v2 = .pointer (some ⟨b4, 0, none⟩) := hok 2 38 rfl
                  obtain rfl : v3 = .int .i64 (m : Int) := hok 3 39 rfl
                  obtain rfl : v4 = .pointer (some ⟨bf, 96, none⟩) := hok 4 40 rfl
                  obtain rfl : v5 = .pointer (some ⟨bf, 96 + m * 4, none⟩) := hok 5 41 rfl
                  obtain rfl : v6 = .agg (scs (F2.fol m)).toArray := hok 6 42 rfl
                  obtain rfl : v7 = .pointer (some ⟨b2, 0, none⟩) := hok 7 43 rfl
                  obtain rfl : v8 = .int .i64 (n : Int) := hok 8 44 rfl
                  obtain rfl : v9 = .pointer (some ⟨bf, 96, none⟩) := hok 9 45 rfl
                  obtain rfl : v10 = .pointer (some ⟨bf, 96 + n * 4, none⟩) := hok 10 46 rfl
                  obtain rfl : v11 = .agg (scs (F2.fol n)).toArray := hok 11 47 rfl
                  obtain rfl : v12 = .agg (scs ((F2.fol m).or (F2.fol n))).toArray := hok 12 48 rfl
                  obtain rfl : v13 = .pointer (some ⟨bf, 96, none⟩) := hok 13 49 rfl
                  obtain rfl : v14 = .pointer (some ⟨bf, 96 + m * 4, none⟩) := hok 14 50 rfl
                  have HBF8 : Hid (Blk w5 bf (fcells F2)) := Lib.hid (HBF7.out.below hb5 HBF7.out.lt)
                  have HG8 : Hid (w1.grownBy w5 (some bf)) := Lib.hid (HG7.out.trans (grownBy_below (B := w7.heap.size) hb5 (Nat.le_refl _)))
                  clear hb5 hok N1 N2 ORN LF LG HB47 HB27 HBF7 HG7
                  simp only [List.zip_cons_cons, List.zip_nil_right, putsL]
                  go_simp
                  go_wp2_with ((with_reducible show wpList _ _ _ (Oper.mk _ (Op.store _ _ _) _ _ _ _ :: _) _ _); refine wpList_storeM sS4 rfl _ _ rfl bf (96 + m * 4) _ (scs ((F2.fol m).or (F2.fol n))) rfl rfl HBF8.out (by rw [fcells_len HF2.out]; have := QM.out; omega) rfl (wcs_one _) ?_)
                  intro w9 hb9 hg9
                  have HBF9 : Hid (Blk w9 bf (fcells F3)) := Lib.hid (by rw [← HFC3.out, List.append_assoc]; exact hb9)
                  have HG9 : Hid (w1.grownBy w9 (some bf)) := Lib.hid (HG8.out.trans hg9)
                  clear hb9 hg9 HBF8 HG8 HFC3
                  go_wp2
                  go_roundw
                  case rel => exact ⟨i + 1, F3, by omega, by go_num, HF3.out, HBF9.out, HG9.out, HE.out⟩
                  case measure => simp [intOf]; omega
    · have HE : Hid (step3 f F = F1) := Lib.hid (by
        rw [HV.out, List.drop_of_length_le (by have := HLL.out; omega)]; rfl)
      go_wp2
      go_end0
      exact ⟨rfl, by rw [HE.out]; exact HR.out, HG1.out.trans HG.out⟩
end Go.Proofs.YtiebpmpjclnpeaaDoor
/- study's 'grow': a step over all forms, until nothing changes. -/
namespace Nac.Gram
def Fx.zero : Fx := ⟨List.replicate 16 false, List.replicate 16 false, List.replicate 16 .zero, List.replicate 16 .zero⟩
theorem Fx.zero_ok : Fx.zero.Ok := ⟨rfl, rfl, rfl, rfl, fun s hs => by rw [List.eq_of_mem_replicate hs]; exact S4.ok_zero, fun s hs => by rw [List.eq_of_mem_replicate hs]; exact S4.ok_zero⟩
theorem cards_le : ∀ l : List S4, cards l ≤ 256 * l.length
  | [] => Nat.le_refl _
  | s :: l => by
    have := cards_le l
    have := S4.card_le s
    simp only [cards, List.map_cons, List.sum_cons, List.length_cons] at *
    omega
theorem Fx.size_le {F : Fx} (h : F.Ok) : F.size ≤ 8224 := by
  have h1 := cards_le F.first
  have h2 := cards_le F.follow
  have h3 : countT F.text ≤ F.text.length := List.countP_le_length
  have h4 : countT F.null ≤ F.null.length := List.countP_le_length
  rw [h.f] at h1
  rw [h.o] at h2
  rw [h.t] at h3
  rw [h.n] at h4
  unfold Fx.size
  omega
end Nac.Gram
namespace Go.Proofs.YtiebpmpjclnpeaaDoor
open Go.RowKit Nac Nac.Gram
section
variable {w : World} {ops : Array Oper} {rest : List Oper} {o : Oper} {a : Act} {Q : Exit → Act → World → Prop}
/-- a call of a function value that holds one pointer -/
theorem wpList_callV (hg : o.guard = none) (x y : Operand) (ts : Array TypeId) (hop : o.op = .call { callee := .value x, args := #[y], argTypes := ts }) (φ : FuncId) (p v : Value) (hx : a.eval x = .func (.func φ) #[] #[p]) (hy : a.eval y = v)
    (hen : ∀ vs w, (callFunc φ vs).run Tryd.prog w = .ok (.enter φ vs) w) (R : Ending → World → Prop) (hc : Calls Tryd.prog φ #[v, p] w R)
    (h : ∀ e w', R e w' → ∃ u, e = .returned u ∧ wpList Tryd.prog ops Q rest (a.put o.dst u) w') : wpList Tryd.prog ops Q (o :: rest) a w :=
  wpList_plain hg fun K hK => by
    have hr : (execOp a.eval o).run Tryd.prog w = .ok (.enter φ #[v, p]) w := by simp [execOp, hop, resolve, Deferred.ofValue, hx, hy, invoke, hen]
    unfold Oper.wp
    rw [hr]
    refine hc.mono fun e w' hR => ?_
    obtain ⟨u, rfl, hu⟩ := h e w' hR
    exact hK _ _ hu
end
theorem fcells_one (F : Fx) : ∀ v ∈ fcells F, v.oneCell' = true := by
  intro v hv
  have hb : ∀ l : List Bool, v ∈ bcs l → v.oneCell' = true := fun l h => by obtain ⟨_, _, rfl⟩ := List.mem_map.1 h; rfl
  have hs : ∀ l : List S4, v ∈ sets l → v.oneCell' = true := fun l h => by
    obtain ⟨c, hc, hv⟩ := List.mem_flatten.1 h
    obtain ⟨s, _, rfl⟩ := List.mem_map.1 hc
    exact wcs_one _ v hv
  unfold fcells at hv
  rw [List.mem_append, List.mem_append, List.mem_append] at hv
  rcases hv with h | h | h | h
  · exact hb _ h
  · exact hb _ h
  · exact hs _ h
  · exact hs _ h
theorem zFx : ((Tryd.prog.info? 74).bind (·.zero)) = some (.agg (fcells .zero).toArray) := by kernel_rfl
/-- forms, each with where its body lies -/
abbrev FormAt := Frm × Option Addr × Nat
def fms (M : List FormAt) : List Frm := M.map (·.1)
/-- a grammar's forms, in blocks older than B -/
structure RG (w : World) (B : Nat) (A : Option Addr) (M : List FormAt) : Prop where
  rows : M ≠ [] → ∃ g k, A = some ⟨g, k, none⟩ ∧ g < B ∧ g < w.heap.size ∧ ∀ i (h : i < M.length), w.rangeAt g (k + i * 2) (frv M[i].1 M[i].2.1 M[i].2.2)
  body : ∀ p ∈ M, RS w B p.2.1 p.1.body
theorem RG.below {w w' : World} {B B' : Nat} {A : Option Addr} {M : List FormAt} (h : RG w B A M) (hb : Below B' w w') (hB : B ≤ B') : RG w' B A M := ⟨fun hne => by
  obtain ⟨g, k, hA, hg, hgs, hr⟩ := h.rows hne
  exact ⟨g, k, hA, hg, Nat.lt_of_lt_of_le hgs hb.size, fun i hi => range_below (hr i hi) hb (by omega)⟩, fun p hp => (h.body p hp).below hb hB⟩
theorem range_grown {w w' : World} {g b o : Nat} {cs : List Value} (h : w.rangeAt g o cs) (hg : w.grownBy w' (some b)) (hl : g < w.heap.size) (hne : g ≠ b) : w'.rangeAt g o cs := fun j v hj => by
  rw [← h j v hj]
  unfold World.cell?
  rw [hg.block g hl (fun e => by injection e with e; exact hne e)]
theorem RG.grown {w w' : World} {B b : Nat} {A : Option Addr} {M : List FormAt} (h : RG w B A M) (hg : w.grownBy w' (some b)) (hB : B ≤ b) : RG w' B A M := ⟨fun hne => by
  obtain ⟨g, k, hA, hgB, hgs, hr⟩ := h.rows hne
  exact ⟨g, k, hA, hgB, Nat.lt_of_lt_of_le hgs hg.size, fun i hi => range_grown (hr i hi) hg hgs (by omega)⟩, fun p hp => (h.body p hp).grown hg hB⟩
def grv (names : Int) (A : Option Addr) (n c : Nat) : List Value := [.int .i64 names, .slice A n c]
theorem sGrm : SInfo 27 2 := ⟨by kernel_rfl, _, Tryd.underlying27, rfl⟩
theorem round_drop {M : List FormAt} {j : Nat} (h : j < M.length) (step : Frm → Fx → Fx) (F : Fx) : roundF step (fms (M.drop j)) F = roundF step (fms (M.drop (j + 1))) (step M[j].1 F) := by
  rw [List.drop_eq_getElem_cons h]; rfl
/-- what one step must do -/
def StepOk (φ : FuncId) (step : Frm → Fx → Fx) (I : Fx → Prop) (M : List FormAt) (bf B : Nat) : Prop :=
  ∀ w F p, p ∈ M → I F → Blk w bf (fcells F) → RS w B p.2.1 p.1.body → Calls Tryd.prog φ #[.agg (frv p.1 p.2.1 p.2.2).toArray, .pointer (some ⟨bf, 0, none⟩)] w (Stepped w bf (step p.1 F))
def Grown (w : World) (bf : Nat) (step : Frm → Fx → Fx) (I : Fx → Prop) (M : List FormAt) (e : Ending) (w' : World) : Prop :=
  e = .returned (.tuple #[]) ∧ ∃ F, I F ∧ (∀ f ∈ fms M, step f F = F) ∧ Blk w' bf (fcells F) ∧ w.grownBy w' (some bf)
set_option maxRecDepth 100000 in
set_option maxHeartbeats 2000000 in
theorem grow_calls (w : World) (F : Fx) (φ : FuncId) (step : Frm → Fx → Fx) (I : Fx → Prop) (M : List FormAt) (names : Int) (bf bg B : Nat) (A : Option Addr) (c : Nat)
    (hen : ∀ vs w, (callFunc φ vs).run Tryd.prog w = .ok (.enter φ vs) w) (hst : StepOk φ step I M bf B) (hgr : Grows step I (fms M)) (hI : ∀ F, I F → F.Ok) (h0 : I F) (hf : Blk w bf (fcells F)) (hg : Blk w bg (grv names A M.length c)) (hne : bg ≠ bf) (hB : B ≤ bf) (hrg : RG w B A M) (hm : M.length ≤ 9223372036854775807) :
    Calls Tryd.prog 38 #[.func (.func φ) #[] #[.pointer (some ⟨bf, 0, none⟩)], .pointer (some ⟨bf, 0, none⟩), .pointer (some ⟨bg, 0, none⟩)] w (Grown w bf step I M) := by
  have HEN := Lib.hid hen
  have HST := Lib.hid hst
  have HGR := Lib.hid hgr
  have HI := Lib.hid hI
  have H0 := Lib.hid h0
  have HF := Lib.hid hf
  have HG := Lib.hid hg
  have HNE := Lib.hid hne
  have HBb := Lib.hid hB
  have HRG := Lib.hid hrg
  obtain ⟨n, hn⟩ : ∃ n, n = M.length := ⟨_, rfl⟩
  have HNL := Lib.hid hn
  rw [← hn] at hm
  clear hen hst hgr hI h0 hf hg hne hB hrg hn
  go_enter Tryd.func38, Tryd.ntmps38
  go_wp2_with (first
    | ((with_reducible show wpList _ _ _ (Oper.mk (some 8) (Op.load 74 _) _ _ _ _ :: _) _ _); refine wpList_loadS sFx rfl _ rfl bf (fcells F) rfl HF.out (fcells_len (HI.out _ H0.out)) ?_)
    | ((with_reducible show wpList _ _ _ (Oper.mk _ (Op.alloc 74) _ _ _ _ :: _) _ _); refine wpList_allocS _ zFx rfl rfl ?_)
    | fail)
  intro w1 hb1 hg1 hs1
  obtain ⟨b4, hb4⟩ : ∃ b, b = w.heap.size := ⟨_, rfl⟩
  rw [← hb4] at hb1 ⊢
  have HB1 := Lib.hid hb1
  have HG1 := Lib.hid hg1
  have HN4 : Hid (w.heap.size ≤ b4) := Lib.hid (by omega)
  clear hb1 hg1 hs1 hb4
  go_wp2_with (first
    | ((with_reducible show wpList _ _ _ (Oper.mk _ (Op.store 74 _ _) _ _ _ _ :: _) _ _); refine wpList_storeS sFx rfl _ _ rfl b4 (fcells .zero) (fcells F) rfl rfl HB1.out rfl (fcells_len (HI.out _ H0.out)) (fcells_one _) ?_)
    | fail)
  intro w2 hb2 hg2
  have HB2 := Lib.hid hb2
  have HN4f : Hid (b4 ≠ bf) := Lib.hid (by have := HF.out.lt; have := HN4.out; omega)
  have HF2 : Hid (Blk w2 bf (fcells F)) := Lib.hid ((HF.out.grown HG1.out (fun e => by cases e)).grown hg2 (fun e => by injection e with e; exact HN4f.out e))
  have HG2 : Hid (w.grownBy w2 (some bf)) := Lib.hid ⟨hg2.os.trans HG1.out.os, hg2.tape.trans HG1.out.tape, hg2.output.trans HG1.out.output, Nat.le_trans HG1.out.size hg2.size, fun k hk hne => (hg2.block k (Nat.lt_of_lt_of_le hk HG1.out.size) (fun e => by injection e with e; have := HN4.out; omega)).trans (HG1.out.block k hk (fun e => by cases e))⟩
  clear hb2 hg2 HB1 HG1
  go_wp2
  go_loopg [4, 5] 8225 (fun k s4 s5 wr => ∃ (b : Nat) (F1 : Fx) (more : Bool), s4 = .pointer (some ⟨b, 0, none⟩) ∧ s5 = .bool more ∧ w.heap.size ≤ b ∧ b ≠ bf ∧ Blk wr b (fcells F1) ∧ Blk wr bf (fcells F1) ∧ I F1 ∧ w.grownBy wr (some bf) ∧ (if more = true then 8224 - F1.size < k else ∀ f ∈ fms M, step f F1 = F1))
  case atStart => exact ⟨b4, F, true, rfl, rfl, HN4.out, HN4f.out, HB2.out, HF2.out, H0.out, HG2.out, by rw [if_pos rfl]; omega⟩
  case round =>
    obtain ⟨b, F1, more, rfl, rfl, hbs, hbf, hb4, hbF, hI1, hgw, hmr⟩ := hrel
    have HBS := Lib.hid hbs
    have HBF := Lib.hid hbf
    have HB4 := Lib.hid hb4
    have HBB := Lib.hid hbF
    have HI1 := Lib.hid hI1
    have HGW := Lib.hid hgw
    have HMR := Lib.hid hmr
    clear hbs hbf hb4 hbF hI1 hgw hmr HB2 HF2 HG2 HN4 HN4f
    have HGB : Hid (Blk wr bg (grv names A M.length c)) := Lib.hid (HG.out.grown HGW.out (fun e => by injection e with e; exact HNE.out e.symm))
    cases more with
    | false =>
      go_wp2
      go_end0
      exact ⟨rfl, F1, HI1.out, by have := HMR.out; rw [if_neg (by decide)] at this; exact this, HBB.out, HGW.out⟩
    | true =>
      have hc1 : wr.cell? ⟨bg, 1, none⟩ = some (.slice A n c) := HGB.out.cell (by rw [HNL.out]; rfl)
      obtain ⟨wi, hwi⟩ : ∃ wi, wi = wr := ⟨_, rfl⟩
      have HWI := Lib.hid hwi
      clear hwi
      go_wp2
      clear hc1
      rw [← HWI.out]
      rw [← HWI.out] at HBB HGW HB4
      go_loopw [14] (fun s14 wq => ∃ (j : Nat) (F2 : Fx), j ≤ n ∧ s14 = .int .i64 (j : Int) ∧ I F2 ∧ Blk wq bf (fcells F2) ∧ wi.grownBy wq (some bf) ∧ roundF step (fms (M.drop j)) F2 = roundF step (fms M) F1) (fun s14 _ => n - (intOf s14).toNat)
      case atStart => exact ⟨0, F1, Nat.zero_le _, rfl, HI1.out, HBB.out, World.grownBy.refl _ _, rfl⟩
      case round =>
        obtain ⟨j, F2, hj, rfl, hI2, hbf2, hgi, hro⟩ := hrel
        have HI2 := Lib.hid hI2
        have HBF2 := Lib.hid hbf2
        have HGI := Lib.hid hgi
        have HRO := Lib.hid hro
        clear hI2 hbf2 hgi hro
        by_cases hlt : j < n
        · have hjl : j < M.length := by rw [← HNL.out]; exact hlt
          have HRGr : Hid (RG wr B A M) := Lib.hid ((HRG.out.grown HGW.out HBb.out).grown HGI.out HBb.out)
          obtain ⟨g, k, hA, hgB, hgs, hrow⟩ := HRGr.out.rows (by rintro rfl; simp at hjl)
          subst hA
          obtain ⟨p, hp⟩ : ∃ p, p = M[j] := ⟨_, rfl⟩
          have HPM : Hid (p ∈ M) := Lib.hid (by rw [hp]; exact List.getElem_mem hjl)
          have HROW : Hid (wr.rangeAt g (k + j * 2) (frv p.1 p.2.1 p.2.2)) := Lib.hid (by rw [hp]; exact hrow j hjl)
          have HR2 : Hid (roundF step (fms (M.drop (j + 1))) (step p.1 F2) = roundF step (fms M) F1) := Lib.hid (by rw [← HRO.out, round_drop hjl, hp])
          have HI3 : Hid (I (step p.1 F2)) := Lib.hid (HGR.out.keep p.1 (List.mem_map.2 ⟨p, HPM.out, rfl⟩) F2 HI2.out)
          clear hp hjl hgB hgs hrow
          go_wp2_with (first
            | ((with_reducible show wpList _ _ _ (Oper.mk _ (Op.load 105 _) _ _ _ _ :: _) _ _); refine wpList_loadM sFrm rfl _ rfl g (k + j * 2) (frv p.1 p.2.1 p.2.2) rfl HROW.out rfl ?_)
            | ((with_reducible show wpList _ _ _ (Oper.mk _ (Op.alloc 105) _ _ _ _ :: _) _ _); refine wpList_allocS _ zFrm rfl rfl ?_)
            | fail)
          intro w4 hb7 hg7 hs7
          obtain ⟨b7, hb7e⟩ : ∃ b, b = wr.heap.size := ⟨_, rfl⟩
          rw [← hb7e] at hb7 ⊢
          have HB7 := Lib.hid hb7
          have HBF4 : Hid (Blk w4 bf (fcells F2)) := Lib.hid (HBF2.out.grown hg7 (fun e => by cases e))
          have HGI4 : Hid (wi.grownBy w4 (some bf)) := Lib.hid (HGI.out.trans (grown_none hg7))
          have HN7 : Hid (b7 ≠ bf ∧ wi.heap.size ≤ b7) := Lib.hid (by have := HBF2.out.lt; have := HGI.out.size; exact ⟨by omega, by omega⟩)
          clear hb7 hg7 hs7 hb7e HROW HRGr HBF2 HGI
          go_wp2_with (first
            | ((with_reducible show wpList _ _ _ (Oper.mk _ (Op.store 105 _ _) _ _ _ _ :: _) _ _); refine wpList_storeS sFrm rfl _ _ rfl b7 _ (frv p.1 p.2.1 p.2.2) rfl rfl HB7.out rfl rfl (frv_one _ _ _) ?_)
            | fail)
          intro w5 hb5 hg5
          have HB75 := Lib.hid hb5
          have HBF5 : Hid (Blk w5 bf (fcells F2)) := Lib.hid (HBF4.out.grown hg5 (fun e => by injection e with e; exact HN7.out.1 e))
          have HGI5 : Hid (wi.grownBy w5 (some bf)) := Lib.hid ⟨hg5.os.trans HGI4.out.os, hg5.tape.trans HGI4.out.tape, hg5.output.trans HGI4.out.output, Nat.le_trans HGI4.out.size hg5.size, fun k hk hne => (hg5.block k (Nat.lt_of_lt_of_le hk HGI4.out.size) (fun e => by injection e with e; have := HN7.out.2; omega)).trans (HGI4.out.block k hk hne)⟩
          have HRS5 : Hid (RS w5 B p.2.1 p.1.body) := Lib.hid (((HRG.out.body p HPM.out).grown HGW.out HBb.out).grown HGI5.out HBb.out)
          clear hb5 hg5 HB7 HBF4 HGI4
          go_wp2_with (first
            | ((with_reducible show wpList _ _ _ (Oper.mk _ (Op.load 105 _) _ _ _ _ :: _) _ _); refine wpList_loadS sFrm rfl _ rfl b7 (frv p.1 p.2.1 p.2.2) rfl HB75.out rfl ?_)
            | ((with_reducible show wpList _ _ _ (Oper.mk _ (Op.call _) _ _ _ _ :: _) _ _); refine wpList_callV rfl _ _ _ rfl φ _ (.agg (frv p.1 p.2.1 p.2.2).toArray) rfl rfl HEN.out _ (HST.out w5 F2 p HPM.out HI2.out HBF5.out HRS5.out) ?_)
            | fail)
          rintro e w6 ⟨rfl, hb6, hg6⟩
          refine ⟨_, rfl, ?_⟩
          have HBF6 := Lib.hid hb6
          have HGI6 : Hid (wi.grownBy w6 (some bf)) := Lib.hid (HGI5.out.trans hg6)
          clear hb6 hg6 HB75 HBF5 HGI5 HRS5
          go_wp2
          go_roundw
          case rel => exact ⟨j + 1, step p.1 F2, by omega, by go_num, HI3.out, HBF6.out, HGI6.out, HR2.out⟩
          case measure => simp [intOf]; omega
        · have HFE : Hid (F2 = roundF step (fms M) F1) := Lib.hid (by
            rw [← HRO.out, List.drop_of_length_le (by have := HNL.out; omega)]; rfl)
          have HB4q : Hid (Blk wr b (fcells F1)) := Lib.hid (HB4.out.grown HGI.out (fun e => by injection e with e; exact HBF.out e.symm))
          have HGWq : Hid (w.grownBy wr (some bf)) := Lib.hid (HGW.out.trans HGI.out)
          have HNEQ : Hid (∀ (p q : Operand) (w : World), (do eqGuard .neq 74 p q (.agg (fcells F2).toArray) (.agg (fcells F1).toArray); binOp .neq 74 (.agg (fcells F2).toArray) (.agg (fcells F1).toArray) : Sem Value).run Tryd.prog w = .ok (.bool (!decide (F2 = F1))) w) := Lib.hid fun p q w => run_neq_fx w p q F2 F1 (HI.out _ HI2.out) (HI.out _ HI1.out)
          go_wp2_with (first
            | ((with_reducible show wpList _ _ _ (Oper.mk (some 22) (Op.load 74 _) _ _ _ _ :: _) _ _); refine wpList_loadS sFx rfl _ rfl bf (fcells F2) rfl HBF2.out (fcells_len (HI.out _ HI2.out)) ?_)
            | ((with_reducible show wpList _ _ _ (Oper.mk (some 23) (Op.load 74 _) _ _ _ _ :: _) _ _); refine wpList_loadS sFx rfl _ rfl b (fcells F1) rfl HB4q.out (fcells_len (HI.out _ HI1.out)) ?_)
            | ((with_reducible show wpList _ _ _ (Oper.mk _ (Op.binOp BinOp.neq 74 _ _ _) _ _ _ _ :: _) _ _); refine wpList_binV (by rfl) _ _ _ _ _ rfl (.bool (!decide (F2 = F1))) (HNEQ.out _ _ _) ?_)
            | ((with_reducible show wpList _ _ _ (Oper.mk (some 25) (Op.load 74 _) _ _ _ _ :: _) _ _); refine wpList_loadS sFx rfl _ rfl b (fcells F1) rfl HB4q.out (fcells_len (HI.out _ HI1.out)) ?_)
            | ((with_reducible show wpList _ _ _ (Oper.mk _ (Op.alloc 74) _ _ _ _ :: _) _ _); refine wpList_allocS _ zFx rfl rfl ?_)
            | fail)
          intro w7 hb7 hg7 hs7
          obtain ⟨b8, hb8e⟩ : ∃ b, b = wr.heap.size := ⟨_, rfl⟩
          rw [← hb8e] at hb7 ⊢
          have HB8 := Lib.hid hb7
          have HN8 : Hid (b8 ≠ bf ∧ w.heap.size ≤ b8) := Lib.hid (by have := HBF2.out.lt; have := HGWq.out.size; exact ⟨by omega, by omega⟩)
          have HBF7 : Hid (Blk w7 bf (fcells F2)) := Lib.hid (HBF2.out.grown hg7 (fun e => by cases e))
          have HGW7 : Hid (w.grownBy w7 (some bf)) := Lib.hid (HGWq.out.trans (grown_none hg7))
          clear hb7 hg7 hs7 hb8e HB4q HGWq HNEQ HBF2 HGI
          go_wp2_with (first
            | ((with_reducible show wpList _ _ _ (Oper.mk _ (Op.store 74 _ _) _ _ _ _ :: _) _ _); refine wpList_storeS sFx rfl _ _ rfl b8 (fcells .zero) (fcells F1) rfl rfl HB8.out rfl (fcells_len (HI.out _ HI1.out)) (fcells_one _) ?_)
            | fail)
          intro w8 hb8 hg8
          have HB88 := Lib.hid hb8
          have HBF8 : Hid (Blk w8 bf (fcells F2)) := Lib.hid (HBF7.out.grown hg8 (fun e => by injection e with e; exact HN8.out.1 e))
          have HGW8 : Hid (w.grownBy w8 (some bf)) := Lib.hid ⟨hg8.os.trans HGW7.out.os, hg8.tape.trans HGW7.out.tape, hg8.output.trans HGW7.out.output, Nat.le_trans HGW7.out.size hg8.size, fun k hk hne => (hg8.block k (Nat.lt_of_lt_of_le hk HGW7.out.size) (fun e => by injection e with e; have := HN8.out.2; omega)).trans (HGW7.out.block k hk hne)⟩
          clear hb8 hg8 HB8 HBF7 HGW7
          go_wp2_with (first
            | ((with_reducible show wpList _ _ _ (Oper.mk (some 10) (Op.load 74 _) _ _ _ _ :: _) _ _); refine wpList_loadS sFx rfl _ rfl bf (fcells F2) rfl HBF8.out (fcells_len (HI.out _ HI2.out)) ?_)
            | ((with_reducible show wpList _ _ _ (Oper.mk _ (Op.store 74 _ _) _ _ _ _ :: _) _ _); refine wpList_storeS sFx rfl _ _ rfl b8 (fcells F1) (fcells F2) rfl rfl HB88.out (fcells_len (HI.out _ HI1.out)) (fcells_len (HI.out _ HI2.out)) (fcells_one _) ?_)
            | fail)
          intro w9 hb9 hg9
          have HB99 := Lib.hid hb9
          have HBF9 : Hid (Blk w9 bf (fcells F2)) := Lib.hid (HBF8.out.grown hg9 (fun e => by injection e with e; exact HN8.out.1 e))
          have HGW9 : Hid (w.grownBy w9 (some bf)) := Lib.hid ⟨hg9.os.trans HGW8.out.os, hg9.tape.trans HGW8.out.tape, hg9.output.trans HGW8.out.output, Nat.le_trans HGW8.out.size hg9.size, fun k hk hne => (hg9.block k (Nat.lt_of_lt_of_le hk HGW8.out.size) (fun e => by injection e with e; have := HN8.out.2; omega)).trans (HGW8.out.block k hk hne)⟩
          clear hb9 hg9 HB88 HBF8 HGW8
          have HALL : Hid (if (!decide (F2 = F1)) = true then 8224 - F2.size < gk - 1 else ∀ f ∈ fms M, step f F2 = F2) := Lib.hid (by
            have hr := round_all HGR.out F1 HI1.out
            have hm := HMR.out
            rw [if_pos trivial] at hm
            by_cases he : F2 = F1
            · rw [if_neg (by simp [he])]
              have h1 := hr.2.2.2 (by rw [← HFE.out]; exact he)
              rw [he]
              exact h1
            · rw [if_pos (by simp [he])]
              have h1 := hr.2.2.1 (by rw [← HFE.out]; exact he)
              rw [← HFE.out] at h1
              have := Fx.size_le (HI.out _ HI2.out)
              omega)
          have HGK : Hid (gk - 1 < gk) := Lib.hid (by
            have hm := HMR.out
            rw [if_pos trivial] at hm
            omega)
          obtain ⟨mb, hmb⟩ : ∃ mb, mb = !decide (F2 = F1) := ⟨_, rfl⟩
          rw [← hmb] at HALL ⊢
          clear hmb
          go_wp2
          go_roundg (gk - 1)
          case measure => exact HGK.out
          case rel => exact ⟨b8, F2, mb, rfl, rfl, HN8.out.2, HN8.out.1, HB99.out, HBF9.out, HI2.out, HGW9.out, HALL.out⟩
end Go.Proofs.YtiebpmpjclnpeaaDoor
/- study: the facts of a grammar. -/
namespace Nac.Gram
structure Studied (G : List Frm) (F : Fx) : Prop where
  ok : F.Ok
  sound : SoundN F G
  null : ∀ f ∈ G, vanishB F f.body = true → F.nul f.name = true
  sfst : SFst F G
  cfst : ∀ f ∈ G, ∀ c, (startS F f.body).has c = true → (F.fst f.name).has c = true
  cfol : ∀ f ∈ G, ∀ pre x rest, f.body = pre ++ x :: rest → 0 ≤ x.name → ∀ c, (startS F rest).has c = true → (F.fol x.name.toNat).has c = true
theorem nul_eq {F F' : Fx} (h : F.null = F'.null) (n : Nat) : F.nul n = F'.nul n := by unfold Fx.nul; rw [h]
theorem fst_eq {F F' : Fx} (h : F.first = F'.first) (n : Nat) : F.fst n = F'.fst n := by unfold Fx.fst; rw [h]
theorem SFst.congr {F F' : Fx} {G : List Frm} (h1 : F.null = F'.null) (h2 : F.first = F'.first) (h : SFst F G) : SFst F' G := fun n c hc hf => by
  rw [← fst_eq h2] at hf
  obtain ⟨f, hfG, hn, hs⟩ := h n c hc hf
  exact ⟨f, hfG, hn, hs.congr h1⟩
theorem studied {G : List Frm} {names : Nat} (hG : Shaped G names) {F1 F2 F3 : Fx} (i1 : I1 G F1) (x1 : ∀ f ∈ G, step1 f F1 = F1) (i2 : I2 G F1.null F2) (x2 : ∀ f ∈ G, step2 f F2 = F2) (i3 : I3 F2.null F2.first F3) (x3 : ∀ f ∈ G, step3 f F3 = F3) : Studied G F3 := by
  have e3 : F3.null = F1.null := i3.2.1.trans i2.2.1
  have hn : ∀ f ∈ G, f.name < 16 := fun f hf => Nat.lt_of_lt_of_le (hG.name f hf) hG.n16
  refine ⟨i3.1, fun n h => i1.2 n (by rw [← nul_eq e3]; exact h), fun f hf h => ?_, SFst.congr i3.2.1.symm i3.2.2.symm i2.2.2, fun f hf c h => ?_, fun f hf pre x rest e h0 c hc => ?_⟩
  · rw [nul_eq e3]
    exact fixed1 i1.1 (hn f hf) (x1 f hf) (by rw [← vanishB_congr e3]; exact h)
  · rw [fst_eq i3.2.2]
    exact fixed2 i2.1 (hn f hf) (x2 f hf) (by rw [← startS_congr i3.2.1 i3.2.2]; exact h)
  · exact (folL_key (fun y hy => ⟨by have := hG.sign f hf y hy; have := hG.n16; omega, (hG.byte f hf y hy).2⟩) i3).2.2.2 (x3 f hf) pre x rest e h0 c hc
def I1z (G : List Frm) (F : Fx) : Prop := I1 G F ∧ F.first = List.replicate 16 .zero
theorem grows1z {G : List Frm} {names : Nat} (hG : Shaped G names) : Grows step1 (I1z G) G :=
  ⟨fun f hf F h => ⟨(grows1 hG).keep f hf F h.1, h.2⟩, fun f hf F h => (grows1 hG).le f hf F h.1, fun f hf F h => (grows1 hG).lt f hf F h.1⟩
theorem i1_zero (G : List Frm) : I1z G .zero := ⟨⟨Fx.zero_ok, fun n h => by
  exfalso
  have e : Fx.zero.nul n = false := by
    unfold Fx.nul Fx.zero
    simp only [List.getD_eq_getElem?_getD, List.getElem?_replicate]
    split <;> rfl
  rw [e] at h
  cases h⟩, rfl⟩
theorem i2_start {G : List Frm} {F : Fx} (h : I1z G F) : I2 G F.null F := ⟨h.1.1, rfl, fun n c _ hc => by
  exfalso
  have e : F.fst n = .zero := by
    unfold Fx.fst
    rw [h.2]
    simp only [List.getD_eq_getElem?_getD, List.getElem?_replicate]
    split <;> rfl
  rw [e, S4.has_zero] at hc
  cases hc⟩
end Nac.Gram
/- study, walked. -/
namespace Go.Proofs.YtiebpmpjclnpeaaDoor
open Go.RowKit Nac Nac.Gram
/-- the forms' rooms -/
structure MOk (M : List FormAt) : Prop where
  len : M.length ≤ 9223372036854775807
  cap : ∀ p ∈ M, p.1.body.length ≤ p.2.2 ∧ p.2.2 ≤ 9223372036854775807
def StudyR (w : World) (M : List FormAt) (e : Ending) (w' : World) : Prop := ∃ F, e = .returned (.agg (fcells F).toArray) ∧ Studied (fms M) F ∧ Below w.heap.size w w'
theorem stepok1 {M : List FormAt} {names bf B : Nat} (hG : Shaped (fms M) names) (hM : MOk M) (hB : B ≤ bf) : StepOk 39 step1 (I1z (fms M)) M bf B := fun w F p hp hI hb hr =>
  have hf : p.1 ∈ fms M := List.mem_map.2 ⟨p, hp, rfl⟩
  step1_calls w F bf B p.1 p.2.1 p.2.2 hI.1.1 hb hr hB (Nat.lt_of_lt_of_le (hG.name _ hf) hG.n16) (fun x hx => by have := hG.sign _ hf x hx; have := hG.n16; omega) (Nat.le_trans (hM.cap p hp).1 (hM.cap p hp).2)
theorem stepok2 {M : List FormAt} {names bf B : Nat} (N : List Bool) (hG : Shaped (fms M) names) (hM : MOk M) (hB : B ≤ bf) : StepOk 41 step2 (I2 (fms M) N) M bf B := fun w F p hp hI hb hr =>
  have hf : p.1 ∈ fms M := List.mem_map.2 ⟨p, hp, rfl⟩
  step2_calls w F bf B p.1 p.2.1 p.2.2 hI.1 hb hr hB (Nat.lt_of_lt_of_le (hG.name _ hf) hG.n16) (fun x hx => by have := hG.sign _ hf x hx; have := hG.n16; omega) (hG.byte _ hf) (Nat.le_trans (hM.cap p hp).1 (hM.cap p hp).2)
theorem stepok3 {M : List FormAt} {names bf B : Nat} (N : List Bool) (A : List S4) (hG : Shaped (fms M) names) (hM : MOk M) (hB : B ≤ bf) : StepOk 43 step3 (I3 N A) M bf B := fun w F p hp hI hb hr =>
  have hf : p.1 ∈ fms M := List.mem_map.2 ⟨p, hp, rfl⟩
  step3_calls w F bf B p.1 p.2.1 p.2.2 hI.1 hb hr hB (Nat.lt_of_lt_of_le (hG.name _ hf) hG.n16) (fun x hx => by have := hG.sign _ hf x hx; have := hG.n16; omega) (hG.byte _ hf) (hM.cap p hp).1 (hM.cap p hp).2
set_option maxRecDepth 100000 in
set_option maxHeartbeats 2000000 in
theorem study_calls (w : World) (names : Int) (A : Option Addr) (c : Nat) (M : List FormAt) (nm : Nat) (hG : Shaped (fms M) nm) (hM : MOk M) (hr : RG w w.heap.size A M) :
    Calls Tryd.prog 29 #[.agg (grv names A M.length c).toArray] w (StudyR w M) := by
  have hmf : ∀ (fn : Fn) (first cap : Array Value) (w : World), (Instr.makeFunc fn first cap).run Tryd.prog w = .ok (.func fn first cap) w := fun _ _ _ _ => rfl
  have HGS := Lib.hid hG
  have HMO := Lib.hid hM
  have HR := Lib.hid hr
  clear hG hM hr
  go_enter Tryd.func29, Tryd.ntmps29
  go_wp2_with (first | ((with_reducible show wpList _ _ _ (Oper.mk (some 1) (Op.box 27 _) _ _ _ _ :: _) _ _); refine wpList_boxS (T := 27) rfl _ rfl (grv names A M.length c) rfl ?_) | fail)
  intro w1 hb1 hg1 hs1
  obtain ⟨b1, hb1e⟩ : ∃ b, b = w.heap.size := ⟨_, rfl⟩
  rw [← hb1e] at hb1 ⊢
  have HB1 := Lib.hid hb1
  have HL1 : Hid (Below w.heap.size w w1 ∧ w1.heap.size = b1 + 1 ∧ b1 = w.heap.size) := Lib.hid ⟨grown_below hg1 (Nat.le_refl _) (fun k e => by cases e), by omega, hb1e⟩
  clear hb1 hg1 hs1 hb1e
  go_wp2_with (first
    | ((with_reducible show wpList _ _ _ (Oper.mk (some 2) (Op.alloc 74) _ _ _ _ :: _) _ _); refine wpList_allocS _ zFx rfl rfl ?_)
    | fail)
  intro w2 hb2 hg2 hs2
  obtain ⟨b2, hb2e⟩ : ∃ b, b = w1.heap.size := ⟨_, rfl⟩
  rw [← hb2e] at hb2 ⊢
  have HB2 := Lib.hid hb2
  have HB12 : Hid (Blk w2 b1 (grv names A M.length c)) := Lib.hid (HB1.out.grown hg2 (fun e => by cases e))
  have HL2 : Hid (Below w.heap.size w w2 ∧ w2.heap.size = b2 + 1 ∧ b2 = b1 + 1 ∧ b1 = w.heap.size) := Lib.hid ⟨below_trans HL1.out.1 (grown_below hg2 HL1.out.1.size (fun k e => by cases e)), by omega, by have := HL1.out; omega, HL1.out.2.2⟩
  clear hb2 hg2 hs2 hb2e HB1 HL1
  go_wp2_with (first
    | ((with_reducible show wpList _ _ _ (Oper.mk (some 3) (Op.alloc 74) _ _ _ _ :: _) _ _); refine wpList_allocS _ zFx rfl rfl ?_)
    | fail)
  intro w3 hb3 hg3 hs3
  obtain ⟨b3, hb3e⟩ : ∃ b, b = w2.heap.size := ⟨_, rfl⟩
  rw [← hb3e] at hb3 ⊢
  have HB3 := Lib.hid hb3
  have HB13 : Hid (Blk w3 b1 (grv names A M.length c)) := Lib.hid (HB12.out.grown hg3 (fun e => by cases e))
  have HB23 : Hid (Blk w3 b2 (fcells .zero)) := Lib.hid (HB2.out.grown hg3 (fun e => by cases e))
  have HL3 : Hid (Below w.heap.size w w3 ∧ b3 = b2 + 1 ∧ b2 = b1 + 1 ∧ b1 = w.heap.size) := Lib.hid ⟨below_trans HL2.out.1 (grown_below hg3 HL2.out.1.size (fun k e => by cases e)), by have := HL2.out; omega, HL2.out.2.2⟩
  have HBb : Hid (w.heap.size ≤ b3 ∧ b1 ≠ b3 ∧ b2 ≠ b3 ∧ b1 ≠ b2) := Lib.hid (by have := HL3.out; exact ⟨by omega, by omega, by omega, by omega⟩)
  clear hb3 hg3 hs3 hb3e HB2 HB12 HL2
  go_wp2_with fail
  refine (grow_calls w3 .zero 39 step1 (I1z (fms M)) M names b3 b1 w.heap.size A c (enters_of Tryd.func39 (by kernel_rfl) rfl) (stepok1 HGS.out HMO.out HBb.out.1) (grows1z HGS.out) (fun _ h => h.1.1) (i1_zero _) HB3.out HB13.out HBb.out.2.1 HBb.out.1 (HR.out.below HL3.out.1 (Nat.le_refl _)) HMO.out.len).mono ?_
  rintro e w4 ⟨rfl, F1, hi4, hx4, hb4, hg4⟩
  have HI1 := Lib.hid hi4
  have HX1 := Lib.hid hx4
  have HB4 := Lib.hid hb4
  have HG4 := Lib.hid hg4
  clear hi4 hx4 hb4 hg4 HB3
  go_wp2_with fail
  refine (grow_calls w4 F1 41 step2 (I2 (fms M) F1.null) M names b3 b1 w.heap.size A c (enters_of Tryd.func41 (by kernel_rfl) rfl) (stepok2 _ HGS.out HMO.out HBb.out.1) (grows2 HGS.out _) (fun _ h => h.1) (i2_start HI1.out) HB4.out (HB13.out.grown HG4.out (fun e => by injection e with e; exact HBb.out.2.1 e.symm)) HBb.out.2.1 HBb.out.1 ((HR.out.below HL3.out.1 (Nat.le_refl _)).grown HG4.out HBb.out.1) HMO.out.len).mono ?_
  rintro e w5 ⟨rfl, F2, hi5, hx5, hb5, hg5⟩
  have HI2 := Lib.hid hi5
  have HX2 := Lib.hid hx5
  have HB5 := Lib.hid hb5
  have HG5 : Hid (w3.grownBy w5 (some b3)) := Lib.hid (HG4.out.trans hg5)
  clear hi5 hx5 hb5 hg5 HB4 HG4
  go_wp2_with fail
  refine (grow_calls w5 F2 43 step3 (I3 F2.null F2.first) M names b3 b1 w.heap.size A c (enters_of Tryd.func43 (by kernel_rfl) rfl) (stepok3 _ _ HGS.out HMO.out HBb.out.1) (grows3 HGS.out _ _) (fun _ h => h.1) ⟨HI2.out.1, rfl, rfl⟩ HB5.out (HB13.out.grown HG5.out (fun e => by injection e with e; exact HBb.out.2.1 e.symm)) HBb.out.2.1 HBb.out.1 ((HR.out.below HL3.out.1 (Nat.le_refl _)).grown HG5.out HBb.out.1) HMO.out.len).mono ?_
  rintro e w6 ⟨rfl, F3, hi6, hx6, hb6, hg6⟩
  have HI3 := Lib.hid hi6
  have HX3 := Lib.hid hx6
  have HB6 := Lib.hid hb6
  have HG6 : Hid (w3.grownBy w6 (some b3)) := Lib.hid (HG5.out.trans hg6)
  have HB26 : Hid (Blk w6 b2 (fcells .zero)) := Lib.hid (HB23.out.grown HG6.out (fun e => by injection e with e; exact HBb.out.2.2.1 e.symm))
  clear hi6 hx6 hb6 hg6 HB5 HG5 HB23
  go_wp2_with (first
    | ((with_reducible show wpList _ _ _ (Oper.mk _ (Op.load 74 _) _ _ _ _ :: _) _ _); refine wpList_loadS sFx rfl _ rfl b3 (fcells F3) rfl HB6.out (fcells_len HI3.out.1) ?_)
    | ((with_reducible show wpList _ _ _ (Oper.mk _ (Op.store 74 _ _) _ _ _ _ :: _) _ _); refine wpList_storeS sFx rfl _ _ rfl b2 (fcells .zero) (fcells F3) rfl rfl HB26.out rfl (fcells_len HI3.out.1) (fcells_one _) ?_)
    | fail)
  intro w8 hb8 hg8
  have l8 := Lib.hid (run_loadS sFx b2 _ hb8 (fcells_len HI3.out.1))
  have HRES : Hid (Below w.heap.size w w8) := Lib.hid (by
    have h1 := HL3.out
    refine ⟨hg8.os.trans (HG6.out.os.trans h1.1.os), hg8.tape.trans (HG6.out.tape.trans h1.1.tape), hg8.output.trans (HG6.out.output.trans h1.1.output), Nat.le_trans h1.1.size (Nat.le_trans HG6.out.size hg8.size), fun k hk => ?_⟩
    have hk3 := Nat.lt_of_lt_of_le hk h1.1.size
    rw [hg8.block k (Nat.lt_of_lt_of_le hk3 HG6.out.size) (fun e => by injection e with e; omega), HG6.out.block k hk3 (fun e => by injection e with e; omega), h1.1.block k hk])
  have HST : Hid (Studied (fms M) F3) := Lib.hid (studied HGS.out HI1.out.1 HX1.out HI2.out HX2.out HI3.out HX3.out)
  clear hb8 hg8
  go_wp2
  exact bodyPost_ret (v := .agg (fcells F3).toArray) (by simp [results, Tryd.results29, asAddr, Sem.run_bind, Sem.run_pure, l8.out]) rfl ⟨F3, rfl, HST.out, HRES.out⟩
end Go.Proofs.YtiebpmpjclnpeaaDoor
/- A guarded load of a struct. -/
namespace Go.Proofs.YtiebpmpjclnpeaaDoor
open Go.RowKit Nac
theorem wpList_loadSw {T : TypeId} {n : Nat} {w : World} {ops : Array Oper} {rest : List Oper} {o : Oper} {a : Act} {Q : Exit → Act → World → Prop} (hS : SInfo T n) (hw : Region.wanted o (yielded ops a.tmps) = true) (x : Operand) (hop : o.op = .load T x) (b : Nat) (cs : List Value) (hx : a.eval x = .pointer (some ⟨b, 0, none⟩)) (hb : Blk w b cs) (hl : cs.length = n)
    (h : wpList Tryd.prog ops Q rest (a.put o.dst (.agg cs.toArray)) w) : wpList Tryd.prog ops Q (o :: rest) a w := by
  unfold wpList
  rw [if_pos hw]
  refine Or.inl ?_
  unfold Oper.wp
  have e : (execOp a.eval o).run Tryd.prog w = .ok (.value (.agg cs.toArray)) w := by
    unfold execOp
    simp only [hop, hx, Instr.loadAt, Instr.sureAddr, Sem.run_bind, Sem.run_pure, Result.andThen_ok, run_loadS hS b cs hb hl]
  rw [e]
  exact h
end Go.Proofs.YtiebpmpjclnpeaaDoor
/- clashes: do a byte, or none, fail to tell two forms apart? -/
namespace Nac
open Go Go.RowKit
/-- a pointer at a new block with the cells cs -/
def Fresh (n0 : Nat) (cs : List Value) (v : Value) (w : World) : Prop := ∃ b, v = .pointer (some ⟨b, 0, none⟩) ∧ Blk w b cs ∧ n0 ≤ b
theorem Fresh.mono (n0 : Nat) (cs : List Value) : ∀ v w w', Fresh n0 cs v w → Below w.heap.size w w' → Fresh n0 cs v w' := fun _ _ _ ⟨b, e, hb, hn⟩ h => ⟨b, e, hb.below h hb.lt, hn⟩
end Nac
namespace Go.Proofs.YtiebpmpjclnpeaaDoor
open Go.RowKit Nac Nac.Gram
section
variable {ops : Array Oper} {Q : Exit → Act → World → Prop} {D : Nat → VD} {a0 : Act} {W0 : World} {i : Nat} {o : Oper} {T : TypeId}
theorem mstep_allocS {cs : List Value} (hz : ((Tryd.prog.info? T).bind (·.zero)) = some (.agg cs.toArray)) (ho : ops[i]? = some o) (hw : ∀ a w, MCtx ops D a0 W0 i a w → Region.wanted o (yielded ops a.tmps) = true) (hop : o.op = .alloc T)
    (hD : D i = .pr (Fresh W0.heap.size cs) (Fresh.mono _ _)) : MStep Tryd.prog ops Q D a0 W0 i :=
  mstep_val ho hw fun a w c => by
    have hz : (zeroValue T).run Tryd.prog w = .ok (.agg cs.toArray) w := by
      cases hi : Tryd.prog.info? T with
      | none => simp [hi] at hz
      | some i =>
        simp [hi] at hz
        simp [zeroValue, typeInfo, hi, hz]
    have hr : (Instr.alloc T true (.tuple #[])).run Tryd.prog w = .ok (.pointer (some ⟨w.heap.size, 0, none⟩)) (w.alloc (.cells cs.toArray T)) := by
      simp [Instr.alloc, hz, newVar, newRow, Value.cells]
    refine ⟨.pointer (some ⟨w.heap.size, 0, none⟩), w.alloc (.cells cs.toArray T), ?_, ?_, (Below.refl _ _).alloc (Nat.le_refl _) _⟩
    · unfold execOp
      simp only [hop, Sem.run_bind, hr, Result.andThen_ok]
      rfl
    · rw [hD]
      exact ⟨_, rfl, Blk.new w cs T, c.below.size⟩
end
def RetClash (w : World) (F : Fx) (G : List Frm) (n : Nat) (e : Ending) (w' : World) : Prop := ∃ b, e = .returned (.bool b) ∧ (b = false → NoClash F G n) ∧ Below w.heap.size w w'
set_option maxRecDepth 100000 in
set_option maxHeartbeats 4000000 in
theorem clashes_calls (w : World) (F : Fx) (bf : Nat) (names : Int) (A : Option Addr) (c : Nat) (M : List FormAt) (nmx nm : Nat) (hF : F.Ok) (hf : Blk w bf (fcells F)) (hG : Shaped (fms M) nmx) (hM : MOk M) (hr : RG w w.heap.size A M) (hn : nm < 16) :
    Calls Tryd.prog 30 #[.pointer (some ⟨bf, 0, none⟩), .agg (grv names A M.length c).toArray, .int .i64 (nm : Int)] w (RetClash w F (fms M) nm) := by
  have HFO := Lib.hid hF
  have HBF := Lib.hid hf
  have HGS := Lib.hid hG
  have HMO := Lib.hid hM
  have HR := Lib.hid hr
  have QM : Hid (nm < 16) := Lib.hid hn
  obtain ⟨n, hnl⟩ : ∃ n, n = M.length := ⟨_, rfl⟩
  have HNL := Lib.hid hnl
  rw [← hnl]
  have hm : n ≤ 9223372036854775807 := by rw [hnl]; exact hM.len
  clear hF hf hG hM hr hnl
  go_enter Tryd.func30, Tryd.ntmps30
  go_wp2_with (first | ((with_reducible show wpList _ _ _ (Oper.mk (some 4) (Op.box 27 _) _ _ _ _ :: _) _ _); refine wpList_boxS (T := 27) rfl _ rfl (grv names A n c) rfl ?_) | fail)
  intro w1 hb1 hg1 hs1
  obtain ⟨b4, hb4e⟩ : ∃ b, b = w.heap.size := ⟨_, rfl⟩
  rw [← hb4e] at hb1 ⊢
  have HB1 := Lib.hid hb1
  have HL1 : Hid (Below w.heap.size w w1) := Lib.hid (grown_below hg1 (Nat.le_refl _) (fun k e => by cases e))
  have HN4 : Hid (b4 = w.heap.size ∧ w1.heap.size = b4 + 1) := Lib.hid ⟨hb4e, by omega⟩
  clear hb1 hg1 hs1 hb4e
  go_wp2_with (first
    | ((with_reducible show wpList _ _ _ (Oper.mk (some 7) (Op.alloc 71) _ _ _ _ :: _) _ _); refine wpList_allocS _ zS4 rfl rfl ?_)
    | fail)
  intro w2 hb2 hg2 hs2
  obtain ⟨b7, hb7e⟩ : ∃ b, b = w1.heap.size := ⟨_, rfl⟩
  rw [← hb7e] at hb2 ⊢
  have HB2 := Lib.hid hb2
  have HB12 : Hid (Blk w2 b4 (grv names A n c)) := Lib.hid (HB1.out.grown hg2 (fun e => by cases e))
  have HL2 : Hid (Below w.heap.size w w2) := Lib.hid (below_trans HL1.out (grown_below hg2 HL1.out.size (fun k e => by cases e)))
  have HN7 : Hid (w.heap.size ≤ b7) := Lib.hid (by have := HN4.out; omega)
  have hc1 : w2.cell? ⟨b4, 1, none⟩ = some (.slice A n c) := HB12.out.cell rfl
  clear hb2 hg2 hs2 hb7e HB1 HL1
  go_wp2
  clear hc1
  go_loopw [8, 16] (fun s8 s16 wr => ∃ (k : Nat) (sv : S4) (nb : Bool), k ≤ n ∧ s16 = .int .i64 (k : Int) ∧ s8 = .bool nb ∧ Blk wr b7 (scs sv) ∧ sv.ok ∧ Below w.heap.size w wr ∧ ClashK F nm (fms M) k (false, sv, nb)) (fun _ s16 _ => n - (intOf s16).toNat)
  case atStart => exact ⟨0, .zero, false, Nat.zero_le _, rfl, rfl, HB2.out, S4.ok_zero, HL2.out, clash_start _ _ _⟩
  case round =>
    obtain ⟨k, sv, nb, hk, rfl, rfl, hb7, hok, hbw, hck⟩ := hrel
    have HB7 := Lib.hid hb7
    have HOK := Lib.hid hok
    have HW := Lib.hid hbw
    have HK := Lib.hid hck
    clear hb7 hok hbw hck HB2 HB12 HL2
    have HBFr : Hid (Blk wr bf (fcells F)) := Lib.hid (HBF.out.below HW.out HBF.out.lt)
    by_cases hlt : k < n
    · have hkl : k < M.length := by rw [← HNL.out]; exact hlt
      obtain ⟨g, kk, hA, hgB, hgs, hrow⟩ := HR.out.rows (by rintro rfl; simp at hkl)
      subst hA
      obtain ⟨p, hp⟩ : ∃ p, p = M[k] := ⟨_, rfl⟩
      have HPM : Hid (p ∈ M) := Lib.hid (by rw [hp]; exact List.getElem_mem hkl)
      have HPF : Hid (p.1 ∈ fms M) := Lib.hid (List.mem_map.2 ⟨p, HPM.out, rfl⟩)
      have HROW : Hid (wr.rangeAt g (kk + k * 2) (frv p.1 p.2.1 p.2.2)) := Lib.hid (by rw [hp]; exact range_below (hrow k hkl) HW.out hgB)
      have HPI : Hid (∃ h : k < (fms M).length, p.1 = (fms M)[k]) := Lib.hid ⟨by simpa [fms] using hkl, by simp [fms, hp]⟩
      clear hp hkl hgB hgs hrow
      go_wp2_with (first
        | ((with_reducible show wpList _ _ _ (Oper.mk _ (Op.load 105 _) _ _ _ _ :: _) _ _); refine wpList_loadM sFrm rfl _ rfl g (kk + k * 2) (frv p.1 p.2.1 p.2.2) rfl HROW.out rfl ?_)
        | ((with_reducible show wpList _ _ _ (Oper.mk _ (Op.alloc 105) _ _ _ _ :: _) _ _); refine wpList_allocS _ zFrm rfl rfl ?_)
        | fail)
      intro w2 hb2 hg2 hs2
      obtain ⟨b10, hb10e⟩ : ∃ b, b = wr.heap.size := ⟨_, rfl⟩
      rw [← hb10e] at hb2 ⊢
      have HB2 := Lib.hid hb2
      have HG2 : Hid (Below wr.heap.size wr w2 ∧ wr.heap.size ≤ b10) := Lib.hid ⟨grown_below hg2 (Nat.le_refl _) (fun k e => by cases e), by omega⟩
      clear hb2 hg2 hs2 hb10e HROW
      go_wp2_with (first
        | ((with_reducible show wpList _ _ _ (Oper.mk _ (Op.store 105 _ _) _ _ _ _ :: _) _ _); refine wpList_storeS sFrm rfl _ _ rfl b10 _ (frv p.1 p.2.1 p.2.2) rfl rfl HB2.out rfl rfl (frv_one _ _ _) ?_)
        | fail)
      intro w3 hb3 hg3
      have hGW : Below wr.heap.size wr w3 := below_trans HG2.out.1 (grown_below hg3 HG2.out.1.size fun k e => by injection e with e; have := HG2.out.2; omega)
      have HB10 := Lib.hid hb3
      have HB73 : Hid (Blk w3 b7 (scs sv)) := Lib.hid (HB7.out.below hGW HB7.out.lt)
      have HBF3 : Hid (Blk w3 bf (fcells F)) := Lib.hid (HBFr.out.below hGW HBFr.out.lt)
      have HW3 : Hid (Below w.heap.size w w3) := Lib.hid (below_trans HW.out (hGW.mono HW.out.size))
      have HRS3 : Hid (RS w3 w.heap.size p.2.1 p.1.body) := Lib.hid ((HR.out.body p HPM.out).below HW3.out (Nat.le_refl _))
      clear hb3 hg3 HB2 HG2 hGW HB7 HBFr HW
      obtain ⟨pn, hpn⟩ : ∃ pn, pn = p.1.name := ⟨_, rfl⟩
      have hc0 : w3.cell? ⟨b10, 0, none⟩ = some (.int .i64 (pn : Int)) := HB10.out.cell (by rw [hpn]; rfl)
      by_cases hne : pn = nm
      · have HPN : Hid (p.1.name = nm) := Lib.hid (by rw [← hpn, hne])
        have hnb : ((nm : Int) != nm) = false := by simp
        rw [hne] at hpn hc0
        clear hne
        obtain ⟨A2, hA2⟩ : ∃ A2, A2 = p.2.1 := ⟨_, rfl⟩
        obtain ⟨c2, hc2⟩ : ∃ c2, c2 = p.2.2 := ⟨_, rfl⟩
        obtain ⟨L2, hL2⟩ : ∃ L2, L2 = p.1.body.length := ⟨_, rfl⟩
        have NB : Hid (∀ w', Below w3.drew.heap.size w3.drew w' → w'.cell? ⟨b10, 1, none⟩ = some (.slice A2 L2 c2)) := Lib.hid fun w' hb => (HB10.out.drew.below hb HB10.out.lt).cell (by rw [hA2, hc2, hL2]; rfl)
        obtain ⟨sn, hsn⟩ : ∃ sn, sn = startS F p.1.body := ⟨_, rfl⟩
        obtain ⟨vn, hvn⟩ : ∃ vn, vn = vanishB F p.1.body := ⟨_, rfl⟩
        have HSN := Lib.hid hsn
        have HVN := Lib.hid hvn
        have hfb := HGS.out.byte p.1 HPF.out
        have hfs : ∀ x ∈ p.1.body, x.name < 16 := fun x hx => by have := HGS.out.sign p.1 HPF.out x hx; have := HGS.out.n16; omega
        have hfl : p.1.body.length ≤ 9223372036854775807 := Nat.le_trans (HMO.out.cap p HPM.out).1 (HMO.out.cap p HPM.out).2
        have HSO : Hid sn.ok := Lib.hid (by rw [hsn]; exact startS_ok HFO.out fun x hx => (hfb x hx).2)
        have HRSX : Hid (∀ w', Below w3.drew.heap.size w3.drew w' → RS w' w'.heap.size p.2.1 p.1.body) := Lib.hid fun w' hb => ((HRS3.out.below (below_trans (drew_below _ _) hb) HW3.out.size).mono (Nat.le_trans HW3.out.size hb.size))
        have CS : Hid (∀ w', Below w3.drew.heap.size w3.drew w' → Calls Tryd.prog 34 #[.pointer (some ⟨bf, 0, none⟩), .slice A2 L2 c2] w' fun e w'' => ∃ v, e = .returned v ∧ (VD.is (.agg (scs sn).toArray)).ok v w'' ∧ Below w'.heap.size w' w'') := Lib.hid fun w' hb => by
          rw [hsn, hL2, hA2]
          exact (start_calls w' F bf _ c2 p.1.body HFO.out (HBF3.out.drew.below hb HBF3.out.lt) (HRSX.out w' hb) hfs hfb hfl).mono fun _ _ h => h.ex
        have CV : Hid (∀ w', Below w3.drew.heap.size w3.drew w' → Calls Tryd.prog 33 #[.pointer (some ⟨bf, 0, none⟩), .slice A2 L2 c2] w' fun e w'' => ∃ v, e = .returned v ∧ (VD.is (.bool vn)).ok v w'' ∧ Below w'.heap.size w' w'') := Lib.hid fun w' hb => by
          rw [hvn, hL2, hA2]
          exact (vanishes_calls w' F bf _ c2 p.1.body HFO.out (HBF3.out.drew.below hb HBF3.out.lt) (HRSX.out w' hb) hfs hfl).mono fun _ _ h => h.ex
        clear hpn hsn hvn hA2 hc2 hL2 hfb hfs hfl HRSX
        go_wp2_with fail
        clear hc0
        refine region_tails 9 (fun ix9 => ([.is (.pointer (some ⟨bf, 0, none⟩)), .is (.pointer (some ⟨b10, 1, none⟩)), .is (.slice A2 L2 c2), .is (.agg (scs sn).toArray), .is (.pointer (some ⟨bf, 0, none⟩)), .is (.pointer (some ⟨b10, 1, none⟩)), .is (.slice A2 L2 c2), .is (.bool vn), VD.pr (Fresh w3.drew.heap.size (scs .zero)) (Fresh.mono _ _)] : List VD).getD ix9 (.is undef)) [some 24, some 25, some 26, some 27, some 28, some 29, some 30, some 31, some 11] (by kernel_rfl) (by kernel_rfl) (by kernel_rfl) (by kernel_rfl) rfl (fun ii hii => ?_) ?_
        · match ii, hii with
          | 0, _ => exact mstep_first rfl (mwant_none rfl) 0 (Or.inl rfl) (by kernel_rfl) (fun _ _ => rfl)
          | 1, _ => exact mstep_pure rfl (mwant_none rfl) (fun aa ww cc => ⟨.pointer (some ⟨b10, 1, none⟩), by have e0 : aa.tmps.getD 10 undef = .pointer (some ⟨b10, 0, none⟩) := (cc.orig 10 (by kernel_rfl)).trans rfl; simp only [execOp, Act.eval, e0]; go_simp, rfl⟩)
          | 2, _ => exact mstep_pure rfl (mwant_none rfl) (fun aa ww cc => ⟨.slice A2 L2 c2, by have e0 : aa.tmps.getD 25 undef = .pointer (some ⟨b10, 1, none⟩) := cc.slot 1 25 (by kernel_rfl) rfl; have m := NB.out _ cc.below; simp only [execOp, Act.eval, e0]; go_simp, rfl⟩)
          | 3, _ => exact mstep_call rfl (mwant_none rfl) _ _ _ rfl (enters_of Tryd.func34 (by kernel_rfl) rfl) (fun aa ww cc => by have e0 : aa.tmps.getD 24 undef = .pointer (some ⟨bf, 0, none⟩) := cc.slot 0 24 (by kernel_rfl) rfl; have e1 : aa.tmps.getD 26 undef = .slice A2 L2 c2 := cc.slot 2 26 (by kernel_rfl) rfl; simp only [List.map_toArray, List.map_cons, List.map_nil, Act.eval, e0, e1]; exact (CS.out) ww cc.below)
          | 4, _ => exact mstep_first rfl (mwant_none rfl) 0 (Or.inl rfl) (by kernel_rfl) (fun _ _ => rfl)
          | 5, _ => exact mstep_pure rfl (mwant_none rfl) (fun aa ww cc => ⟨.pointer (some ⟨b10, 1, none⟩), by have e0 : aa.tmps.getD 10 undef = .pointer (some ⟨b10, 0, none⟩) := (cc.orig 10 (by kernel_rfl)).trans rfl; simp only [execOp, Act.eval, e0]; go_simp, rfl⟩)
          | 6, _ => exact mstep_pure rfl (mwant_none rfl) (fun aa ww cc => ⟨.slice A2 L2 c2, by have e0 : aa.tmps.getD 29 undef = .pointer (some ⟨b10, 1, none⟩) := cc.slot 5 29 (by kernel_rfl) rfl; have m := NB.out _ cc.below; simp only [execOp, Act.eval, e0]; go_simp, rfl⟩)
          | 7, _ => exact mstep_call rfl (mwant_none rfl) _ _ _ rfl (enters_of Tryd.func33 (by kernel_rfl) rfl) (fun aa ww cc => by have e0 : aa.tmps.getD 28 undef = .pointer (some ⟨bf, 0, none⟩) := cc.slot 4 28 (by kernel_rfl) rfl; have e1 : aa.tmps.getD 30 undef = .slice A2 L2 c2 := cc.slot 6 30 (by kernel_rfl) rfl; simp only [List.map_toArray, List.map_cons, List.map_nil, Act.eval, e0, e1]; exact (CV.out) ww cc.below)
          | 8, _ => exact mstep_allocS zS4 rfl (mwant_none rfl) rfl rfl
          | n + 9, h => exact absurd h (by show ¬ (n + 9 < 9); omega)
        · intro VV w5 hlen hb5 hok
          match VV, hlen with
          | [v0, v1, v2, v3, v4, v5, v6, v7, v8], _ =>
            obtain rfl : v0 = .pointer (some ⟨bf, 0, none⟩) := hok 0 24 rfl
            obtain rfl : v1 = .pointer (some ⟨b10, 1, none⟩) := hok 1 25 rfl
            obtain rfl : v2 = .slice A2 L2 c2 := hok 2 26 rfl
            obtain rfl : v3 = .agg (scs sn).toArray := hok 3 27 rfl
            obtain rfl : v4 = .pointer (some ⟨bf, 0, none⟩) := hok 4 28 rfl
            obtain rfl : v5 = .pointer (some ⟨b10, 1, none⟩) := hok 5 29 rfl
            obtain rfl : v6 = .slice A2 L2 c2 := hok 6 30 rfl
            obtain rfl : v7 = .bool vn := hok 7 31 rfl
            have p8 := hok 8 11 rfl
            obtain ⟨b11, rfl, hb11, hn11⟩ := p8
            have HB75 : Hid (Blk w5 b7 (scs sv)) := Lib.hid (HB73.out.below hb5 HB73.out.lt)
            have HW5 : Hid (Below w.heap.size w w5) := Lib.hid (below_trans HW3.out (hb5.mono HW3.out.size))
            have HB11 := Lib.hid hb11
            have HN11 : Hid (w3.heap.size ≤ b11 ∧ b7 < w3.heap.size) := Lib.hid ⟨hn11, HB73.out.lt⟩
            clear hb11 hn11 hb5 hok NB CS CV HB73 HB10 HBF3 HRS3
            simp only [List.zip_cons_cons, List.zip_nil_right, putsL]
            go_simp
            go_wp2_with ((with_reducible show wpList _ _ _ (Oper.mk _ (Op.store _ _ _) _ _ _ _ :: _) _ _); refine wpList_storeS sS4 rfl _ _ rfl b11 (scs .zero) (scs sn) rfl rfl HB11.out rfl rfl (wcs_one _) ?_)
            intro w6 hb6 hg6
            have HB116 := Lib.hid hb6
            have HB76 : Hid (Blk w6 b7 (scs sv)) := Lib.hid (HB75.out.grown hg6 (fun e => by injection e with e; have := HN11.out; omega))
            have HW6 : Hid (Below w.heap.size w w6) := Lib.hid (below_trans HW5.out (grown_below hg6 HW5.out.size fun k e => by injection e with e; have := HN11.out.1; have := HW3.out.size; omega))
            have HBF6 : Hid (Blk w6 bf (fcells F)) := Lib.hid (HBF.out.below HW6.out HBF.out.lt)
            clear hb6 hg6 HB75 HW5 HB11
            cases nb <;> cases vn
            · obtain ⟨mb, hmb⟩ : ∃ mb, mb = !decide (sv.and sn = .zero) := ⟨_, rfl⟩
              have HMB := Lib.hid hmb
              clear hmb
              go_wp2_with (first
                | ((with_reducible show wpList _ _ _ (Oper.mk (some 37) (Op.load 71 _) _ _ _ _ :: _) _ _); refine wpList_loadSw sS4 (by rfl) _ rfl b7 (scs sv) rfl HB76.out rfl ?_)
                | ((with_reducible show wpList _ _ _ (Oper.mk (some 38) (Op.load 71 _) _ _ _ _ :: _) _ _); refine wpList_loadSw sS4 (by rfl) _ rfl b11 (scs sn) rfl HB116.out rfl ?_)
                | fail)
              refine (meets_calls w6 sv sn HOK.out HSO.out).mono ?_
              rintro e w8 ⟨rfl, hb8⟩
              rw [← HMB.out]
              have HW8 : Hid (Below w.heap.size w w8) := Lib.hid (below_trans HW6.out (hb8.mono HW6.out.size))
              have HB78 : Hid (Blk w8 b7 (scs sv)) := Lib.hid (HB76.out.below hb8 HB76.out.lt)
              have HB118 : Hid (Blk w8 b11 (scs sn)) := Lib.hid (HB116.out.below hb8 HB116.out.lt)
              clear hb8 HB76 HB116 HW6 HBF6
              cases mb with
              | true =>
                clear HB78 HB118
                go_wp2
                go_ret
                exact ⟨true, rfl, (fun e => by cases e), HW8.out⟩
              | false =>
                have HZ : Hid (sv.and sn = .zero) := Lib.hid (by have := HMB.out; simpa using this)
                have HK2 : Hid (ClashK F nm (fms M) (k + 1) (false, sv.or sn, false)) := Lib.hid (by
                  obtain ⟨hpl, hpe⟩ := HPI.out
                  have := clash_take HK.out hpl (by rw [← hpe]; exact HPN.out) (by rw [← hpe, ← HSN.out]; exact HSO.out) (by rw [← hpe, ← HVN.out]; rfl) (by rw [← hpe, ← HSN.out]; exact HZ.out)
                  rw [← hpe, ← HSN.out, ← HVN.out] at this
                  exact this)
                go_wp2_with (first
                  | ((with_reducible show wpList _ _ _ (Oper.mk (some 41) (Op.load 71 _) _ _ _ _ :: _) _ _); refine wpList_loadS sS4 rfl _ rfl b7 (scs sv) rfl HB78.out rfl ?_)
                  | ((with_reducible show wpList _ _ _ (Oper.mk (some 42) (Op.load 71 _) _ _ _ _ :: _) _ _); refine wpList_loadS sS4 rfl _ rfl b11 (scs sn) rfl HB118.out rfl ?_)
                  | fail)
                refine (or_calls w8 sv sn HOK.out HSO.out).mono ?_
                rintro e w9 ⟨rfl, hb9⟩
                have HW9 : Hid (Below w.heap.size w w9) := Lib.hid (below_trans HW8.out (hb9.mono HW8.out.size))
                have HB79 : Hid (Blk w9 b7 (scs sv)) := Lib.hid (HB78.out.below hb9 HB78.out.lt)
                clear hb9 HB78 HB118 HW8
                go_wp2_with (first
                  | ((with_reducible show wpList _ _ _ (Oper.mk _ (Op.store 71 _ _) _ _ _ _ :: _) _ _); refine wpList_storeS sS4 rfl _ _ rfl b7 (scs sv) (scs (sv.or sn)) rfl rfl HB79.out rfl rfl (wcs_one _) ?_)
                  | fail)
                intro w10 hb10 hg10
                have HB710 := Lib.hid hb10
                have HW10 : Hid (Below w.heap.size w w10) := Lib.hid (below_trans HW9.out (grown_below hg10 HW9.out.size fun k e => by injection e with e; have := HN7.out; omega))
                have HOK2 : Hid (sv.or sn).ok := Lib.hid (S4.ok_or HOK.out HSO.out)
                clear hb10 hg10 HB79 HW9
                go_wp2
                go_roundw
                case rel => exact ⟨k + 1, sv.or sn, false, by omega, by go_num, rfl, HB710.out, HOK2.out, HW10.out, HK2.out⟩
                case measure => simp [intOf]; omega
            · obtain ⟨mb, hmb⟩ : ∃ mb, mb = !decide (sv.and sn = .zero) := ⟨_, rfl⟩
              have HMB := Lib.hid hmb
              clear hmb
              go_wp2_with (first
                | ((with_reducible show wpList _ _ _ (Oper.mk (some 37) (Op.load 71 _) _ _ _ _ :: _) _ _); refine wpList_loadSw sS4 (by rfl) _ rfl b7 (scs sv) rfl HB76.out rfl ?_)
                | ((with_reducible show wpList _ _ _ (Oper.mk (some 38) (Op.load 71 _) _ _ _ _ :: _) _ _); refine wpList_loadSw sS4 (by rfl) _ rfl b11 (scs sn) rfl HB116.out rfl ?_)
                | fail)
              refine (meets_calls w6 sv sn HOK.out HSO.out).mono ?_
              rintro e w8 ⟨rfl, hb8⟩
              rw [← HMB.out]
              have HW8 : Hid (Below w.heap.size w w8) := Lib.hid (below_trans HW6.out (hb8.mono HW6.out.size))
              have HB78 : Hid (Blk w8 b7 (scs sv)) := Lib.hid (HB76.out.below hb8 HB76.out.lt)
              have HB118 : Hid (Blk w8 b11 (scs sn)) := Lib.hid (HB116.out.below hb8 HB116.out.lt)
              clear hb8 HB76 HB116 HW6 HBF6
              cases mb with
              | true =>
                clear HB78 HB118
                go_wp2
                go_ret
                exact ⟨true, rfl, (fun e => by cases e), HW8.out⟩
              | false =>
                have HZ : Hid (sv.and sn = .zero) := Lib.hid (by have := HMB.out; simpa using this)
                have HK2 : Hid (ClashK F nm (fms M) (k + 1) (false, sv.or sn, true)) := Lib.hid (by
                  obtain ⟨hpl, hpe⟩ := HPI.out
                  have := clash_take HK.out hpl (by rw [← hpe]; exact HPN.out) (by rw [← hpe, ← HSN.out]; exact HSO.out) (by rw [← hpe, ← HVN.out]; rfl) (by rw [← hpe, ← HSN.out]; exact HZ.out)
                  rw [← hpe, ← HSN.out, ← HVN.out] at this
                  exact this)
                go_wp2_with (first
                  | ((with_reducible show wpList _ _ _ (Oper.mk (some 41) (Op.load 71 _) _ _ _ _ :: _) _ _); refine wpList_loadS sS4 rfl _ rfl b7 (scs sv) rfl HB78.out rfl ?_)
                  | ((with_reducible show wpList _ _ _ (Oper.mk (some 42) (Op.load 71 _) _ _ _ _ :: _) _ _); refine wpList_loadS sS4 rfl _ rfl b11 (scs sn) rfl HB118.out rfl ?_)
                  | fail)
                refine (or_calls w8 sv sn HOK.out HSO.out).mono ?_
                rintro e w9 ⟨rfl, hb9⟩
                have HW9 : Hid (Below w.heap.size w w9) := Lib.hid (below_trans HW8.out (hb9.mono HW8.out.size))
                have HB79 : Hid (Blk w9 b7 (scs sv)) := Lib.hid (HB78.out.below hb9 HB78.out.lt)
                clear hb9 HB78 HB118 HW8
                go_wp2_with (first
                  | ((with_reducible show wpList _ _ _ (Oper.mk _ (Op.store 71 _ _) _ _ _ _ :: _) _ _); refine wpList_storeS sS4 rfl _ _ rfl b7 (scs sv) (scs (sv.or sn)) rfl rfl HB79.out rfl rfl (wcs_one _) ?_)
                  | fail)
                intro w10 hb10 hg10
                have HB710 := Lib.hid hb10
                have HW10 : Hid (Below w.heap.size w w10) := Lib.hid (below_trans HW9.out (grown_below hg10 HW9.out.size fun k e => by injection e with e; have := HN7.out; omega))
                have HOK2 : Hid (sv.or sn).ok := Lib.hid (S4.ok_or HOK.out HSO.out)
                clear hb10 hg10 HB79 HW9
                go_wp2
                go_roundw
                case rel => exact ⟨k + 1, sv.or sn, true, by omega, by go_num, rfl, HB710.out, HOK2.out, HW10.out, HK2.out⟩
                case measure => simp [intOf]; omega
            · obtain ⟨mb, hmb⟩ : ∃ mb, mb = !decide (sv.and sn = .zero) := ⟨_, rfl⟩
              have HMB := Lib.hid hmb
              clear hmb
              go_wp2_with (first
                | ((with_reducible show wpList _ _ _ (Oper.mk (some 37) (Op.load 71 _) _ _ _ _ :: _) _ _); refine wpList_loadSw sS4 (by rfl) _ rfl b7 (scs sv) rfl HB76.out rfl ?_)
                | ((with_reducible show wpList _ _ _ (Oper.mk (some 38) (Op.load 71 _) _ _ _ _ :: _) _ _); refine wpList_loadSw sS4 (by rfl) _ rfl b11 (scs sn) rfl HB116.out rfl ?_)
                | fail)
              refine (meets_calls w6 sv sn HOK.out HSO.out).mono ?_
              rintro e w8 ⟨rfl, hb8⟩
              rw [← HMB.out]
              have HW8 : Hid (Below w.heap.size w w8) := Lib.hid (below_trans HW6.out (hb8.mono HW6.out.size))
              have HB78 : Hid (Blk w8 b7 (scs sv)) := Lib.hid (HB76.out.below hb8 HB76.out.lt)
              have HB118 : Hid (Blk w8 b11 (scs sn)) := Lib.hid (HB116.out.below hb8 HB116.out.lt)
              clear hb8 HB76 HB116 HW6 HBF6
              cases mb with
              | true =>
                clear HB78 HB118
                go_wp2
                go_ret
                exact ⟨true, rfl, (fun e => by cases e), HW8.out⟩
              | false =>
                have HZ : Hid (sv.and sn = .zero) := Lib.hid (by have := HMB.out; simpa using this)
                have HK2 : Hid (ClashK F nm (fms M) (k + 1) (false, sv.or sn, true)) := Lib.hid (by
                  obtain ⟨hpl, hpe⟩ := HPI.out
                  have := clash_take HK.out hpl (by rw [← hpe]; exact HPN.out) (by rw [← hpe, ← HSN.out]; exact HSO.out) (by rw [← hpe, ← HVN.out]; rfl) (by rw [← hpe, ← HSN.out]; exact HZ.out)
                  rw [← hpe, ← HSN.out, ← HVN.out] at this
                  exact this)
                go_wp2_with (first
                  | ((with_reducible show wpList _ _ _ (Oper.mk (some 41) (Op.load 71 _) _ _ _ _ :: _) _ _); refine wpList_loadS sS4 rfl _ rfl b7 (scs sv) rfl HB78.out rfl ?_)
                  | ((with_reducible show wpList _ _ _ (Oper.mk (some 42) (Op.load 71 _) _ _ _ _ :: _) _ _); refine wpList_loadS sS4 rfl _ rfl b11 (scs sn) rfl HB118.out rfl ?_)
                  | fail)
                refine (or_calls w8 sv sn HOK.out HSO.out).mono ?_
                rintro e w9 ⟨rfl, hb9⟩
                have HW9 : Hid (Below w.heap.size w w9) := Lib.hid (below_trans HW8.out (hb9.mono HW8.out.size))
                have HB79 : Hid (Blk w9 b7 (scs sv)) := Lib.hid (HB78.out.below hb9 HB78.out.lt)
                clear hb9 HB78 HB118 HW8
                go_wp2_with (first
                  | ((with_reducible show wpList _ _ _ (Oper.mk _ (Op.store 71 _ _) _ _ _ _ :: _) _ _); refine wpList_storeS sS4 rfl _ _ rfl b7 (scs sv) (scs (sv.or sn)) rfl rfl HB79.out rfl rfl (wcs_one _) ?_)
                  | fail)
                intro w10 hb10 hg10
                have HB710 := Lib.hid hb10
                have HW10 : Hid (Below w.heap.size w w10) := Lib.hid (below_trans HW9.out (grown_below hg10 HW9.out.size fun k e => by injection e with e; have := HN7.out; omega))
                have HOK2 : Hid (sv.or sn).ok := Lib.hid (S4.ok_or HOK.out HSO.out)
                clear hb10 hg10 HB79 HW9
                go_wp2
                go_roundw
                case rel => exact ⟨k + 1, sv.or sn, true, by omega, by go_num, rfl, HB710.out, HOK2.out, HW10.out, HK2.out⟩
                case measure => simp [intOf]; omega
            · clear HBF6 HB76 HB116
              go_wp2
              go_ret
              exact ⟨true, rfl, (fun e => by cases e), HW6.out⟩
      · have hnb : ((pn : Int) != nm) = true := by simpa using fun e : (pn : Int) = nm => hne (by omega)
        have HK2 : Hid (ClashK F nm (fms M) (k + 1) (false, sv, nb)) := Lib.hid (by
          obtain ⟨hpl, hpe⟩ := HPI.out
          exact clash_skip HK.out hpl (by rw [← hpe, ← hpn]; exact hne))
        clear hpn
        go_wp2
        go_roundw
        case rel => exact ⟨k + 1, sv, nb, by omega, by go_num, rfl, HB73.out, HOK.out, HW3.out, HK2.out⟩
        case measure => simp [intOf]; omega
    · have HKN : Hid (k = (fms M).length) := Lib.hid (by have := HNL.out; simp [fms]; omega)
      cases nb with
      | false =>
        have mb := false
        go_wp2_with fail
        refine region_monos (fun ix9 => ([.is (.bool false), .is (.bool false), .is (undef), .is (undef), .is (undef), .is (undef), .is (undef), .is (undef), .is (undef), .is (undef), .is (.bool false), .is (.bool false)] : List VD).getD ix9 (.is undef)) [some 49, some 50, some 51, some 52, some 53, some 54, some 55, some 56, some 57, some 58, some 59, some 6] (by kernel_rfl) (by kernel_rfl) (by kernel_rfl) rfl (fun ii hii => ?_) ?_
        · match ii, hii with
          | 0, _ => exact mstep_first rfl (mwant_none rfl) 8 (Or.inl rfl) (by kernel_rfl) (fun _ _ => rfl)
          | 1, _ => exact mstep_copy rfl (mwant_none rfl) 49 (Or.inl rfl) 0 (by kernel_rfl) rfl rfl
          | 2, _ => exact mstep_unwanted rfl 1 true 50 rfl (by kernel_rfl) rfl (Or.inl rfl) (by kernel_rfl) rfl
          | 3, _ => exact mstep_unwanted rfl 1 true 50 rfl (by kernel_rfl) rfl (Or.inl rfl) (by kernel_rfl) rfl
          | 4, _ => exact mstep_unwanted rfl 1 true 50 rfl (by kernel_rfl) rfl (Or.inl rfl) (by kernel_rfl) rfl
          | 5, _ => exact mstep_unwanted rfl 1 true 50 rfl (by kernel_rfl) rfl (Or.inl rfl) (by kernel_rfl) rfl
          | 6, _ => exact mstep_unwanted rfl 1 true 50 rfl (by kernel_rfl) rfl (Or.inl rfl) (by kernel_rfl) rfl
          | 7, _ => exact mstep_unwanted rfl 1 true 50 rfl (by kernel_rfl) rfl (Or.inl rfl) (by kernel_rfl) rfl
          | 8, _ => exact mstep_unwanted rfl 1 true 50 rfl (by kernel_rfl) rfl (Or.inl rfl) (by kernel_rfl) rfl
          | 9, _ => exact mstep_unwanted rfl 1 true 50 rfl (by kernel_rfl) rfl (Or.inl rfl) (by kernel_rfl) rfl
          | 10, _ => exact mstep_pure rfl (mwant_none rfl) (fun aa ww cc => ⟨.bool false, by have e0 : aa.tmps.getD 50 undef = .bool false := cc.slot 1 50 (by kernel_rfl) rfl; simp only [execOp, Act.eval, e0]; go_simp, rfl⟩)
          | 11, _ => exact mstep_copy rfl (mwant_none rfl) 59 (Or.inr rfl) 10 (by kernel_rfl) rfl rfl
          | n + 12, h => exact absurd h (by show ¬ (n + 12 < 12); omega)
        · intro VV w5 hlen hb5 hok
          match VV, hlen with
          | [v0, v1, v2, v3, v4, v5, v6, v7, v8, v9, v10, v11], _ =>
            obtain rfl : v0 = .bool false := hok 0 49 rfl
            obtain rfl : v1 = .bool false := hok 1 50 rfl
            obtain rfl : v2 = undef := hok 2 51 rfl
            obtain rfl : v3 = undef := hok 3 52 rfl
            obtain rfl : v4 = undef := hok 4 53 rfl
            obtain rfl : v5 = undef := hok 5 54 rfl
            obtain rfl : v6 = undef := hok 6 55 rfl
            obtain rfl : v7 = undef := hok 7 56 rfl
            obtain rfl : v8 = undef := hok 8 57 rfl
            obtain rfl : v9 = undef := hok 9 58 rfl
            obtain rfl : v10 = .bool false := hok 10 59 rfl
            obtain rfl : v11 = .bool false := hok 11 6 rfl
            have HW5 : Hid (Below w.heap.size w w5) := Lib.hid (below_trans HW.out (hb5.mono HW.out.size))
            clear hb5 hok
            simp only [List.zip_cons_cons, List.zip_nil_right, putsL]
            go_simp
            go_wp2
            go_ret
            exact ⟨false, rfl, fun _ => ⟨(sv, false), by rw [← HKN.out]; exact HK.out, (fun e => by cases e)⟩, HW5.out⟩
      | true =>
        obtain ⟨mb, hmb⟩ : ∃ mb, mb = !decide (sv.and (F.fol nm) = .zero) := ⟨_, rfl⟩
        have HMB := Lib.hid hmb
        have LS : Hid (∀ w', Below wr.drew.heap.size wr.drew w' → (Instr.loadAt 71 (.pointer (some ⟨b7, 0, none⟩))).run Tryd.prog w' = .ok (.agg (scs sv).toArray) w') := Lib.hid fun w' hb => run_loadAtS sS4 w' b7 0 _ ((HB7.out.drew.below hb HB7.out.lt).range 0 _ ⟨[], [], by simp, rfl⟩) rfl
        have LF : Hid (∀ w', Below wr.drew.heap.size wr.drew w' → (Instr.loadAt 71 (.pointer (some ⟨bf, 96 + nm * 4, none⟩))).run Tryd.prog w' = .ok (.agg (scs (F.fol nm)).toArray) w') := Lib.hid fun w' hb => run_loadAtS sS4 w' bf (96 + nm * 4) _ ((HBFr.out.drew.below hb HBFr.out.lt).range _ _ (fc_follow HFO.out QM.out)) rfl
        have ME : Hid (∀ w', Below wr.drew.heap.size wr.drew w' → Calls Tryd.prog 44 #[.agg (scs sv).toArray, .agg (scs (F.fol nm)).toArray] w' fun e w'' => ∃ v, e = .returned v ∧ (VD.is (.bool mb)).ok v w'' ∧ Below w'.heap.size w' w'') := Lib.hid fun w' _ => by
          rw [hmb]
          exact (meets_calls w' sv (F.fol nm) HOK.out (ok_getD HFO.out.os nm)).mono fun _ _ h => h.ex
        clear hmb
        go_wp2_with fail
        refine region_monos (fun ix9 => ([.is (.bool true), .is (.bool true), .is (.agg (scs sv).toArray), .is (.pointer (some ⟨bf, 0, none⟩)), .is (.int .i64 (nm : Int)), .is (.pointer (some ⟨bf, 0, none⟩)), .is (.pointer (some ⟨bf, 96, none⟩)), .is (.pointer (some ⟨bf, 96 + nm * 4, none⟩)), .is (.agg (scs (F.fol nm)).toArray), .is (.bool mb), .is (.bool mb), .is (.bool mb)] : List VD).getD ix9 (.is undef)) [some 49, some 50, some 51, some 52, some 53, some 54, some 55, some 56, some 57, some 58, some 59, some 6] (by kernel_rfl) (by kernel_rfl) (by kernel_rfl) rfl (fun ii hii => ?_) ?_
        · match ii, hii with
          | 0, _ => exact mstep_first rfl (mwant_none rfl) 8 (Or.inl rfl) (by kernel_rfl) (fun _ _ => rfl)
          | 1, _ => exact mstep_copy rfl (mwant_none rfl) 49 (Or.inl rfl) 0 (by kernel_rfl) rfl rfl
          | 2, _ => exact mstep_loadT rfl (mwant 1 true 50 rfl (by kernel_rfl) rfl rfl (by kernel_rfl)) 7 _ rfl (by kernel_rfl) _ _ rfl rfl (fun w hb => LS.out w hb)
          | 3, _ => exact mstep_first rfl (mwant 1 true 50 rfl (by kernel_rfl) rfl rfl (by kernel_rfl)) 0 (Or.inl rfl) (by kernel_rfl) (fun _ _ => rfl)
          | 4, _ => exact mstep_first rfl (mwant 1 true 50 rfl (by kernel_rfl) rfl rfl (by kernel_rfl)) 2 (Or.inl rfl) (by kernel_rfl) (fun _ _ => rfl)
          | 5, _ => exact mstep_pure rfl (mwant 1 true 50 rfl (by kernel_rfl) rfl rfl (by kernel_rfl)) (fun aa ww cc => ⟨.pointer (some ⟨bf, 0, none⟩), by have e0 : aa.tmps.getD 52 undef = .pointer (some ⟨bf, 0, none⟩) := cc.slot 3 52 (by kernel_rfl) rfl; simp only [execOp, Act.eval, e0]; go_simp, rfl⟩)
          | 6, _ => exact mstep_pure rfl (mwant 1 true 50 rfl (by kernel_rfl) rfl rfl (by kernel_rfl)) (fun aa ww cc => ⟨.pointer (some ⟨bf, 96, none⟩), by have e0 : aa.tmps.getD 54 undef = .pointer (some ⟨bf, 0, none⟩) := cc.slot 5 54 (by kernel_rfl) rfl; simp only [execOp, Act.eval, e0]; go_simp, rfl⟩)
          | 7, _ => exact mstep_pure rfl (mwant 1 true 50 rfl (by kernel_rfl) rfl rfl (by kernel_rfl)) (fun aa ww cc => ⟨.pointer (some ⟨bf, 96 + nm * 4, none⟩), by have e0 : aa.tmps.getD 55 undef = .pointer (some ⟨bf, 96, none⟩) := cc.slot 6 55 (by kernel_rfl) rfl; have e1 : aa.tmps.getD 53 undef = .int .i64 (nm : Int) := cc.slot 4 53 (by kernel_rfl) rfl; have qi := QM.out; have q : (nm : Int) < 16 := (by omega); simp only [execOp, Act.eval, e0, e1]; go_simp, rfl⟩)
          | 8, _ => exact mstep_load rfl (mwant 1 true 50 rfl (by kernel_rfl) rfl rfl (by kernel_rfl)) 56 _ rfl 7 (by kernel_rfl) rfl _ _ rfl rfl (fun w hb => LF.out w hb)
          | 9, _ => exact mstep_call rfl (mwant 1 true 50 rfl (by kernel_rfl) rfl rfl (by kernel_rfl)) _ _ _ rfl (enters_of Tryd.func44 (by kernel_rfl) rfl) (fun aa ww cc => by have e0 : aa.tmps.getD 51 undef = .agg (scs sv).toArray := cc.slot 2 51 (by kernel_rfl) rfl; have e1 : aa.tmps.getD 57 undef = .agg (scs (F.fol nm)).toArray := cc.slot 8 57 (by kernel_rfl) rfl; simp only [List.map_toArray, List.map_cons, List.map_nil, Act.eval, e0, e1]; exact (ME.out) ww cc.below)
          | 10, _ => exact mstep_pure rfl (mwant_none rfl) (fun aa ww cc => ⟨.bool mb, by have e0 : aa.tmps.getD 50 undef = .bool true := cc.slot 1 50 (by kernel_rfl) rfl; have e1 : aa.tmps.getD 58 undef = .bool mb := cc.slot 9 58 (by kernel_rfl) rfl; simp only [execOp, Act.eval, e0, e1]; go_simp, rfl⟩)
          | 11, _ => exact mstep_copy rfl (mwant_none rfl) 59 (Or.inr rfl) 10 (by kernel_rfl) rfl rfl
          | n + 12, h => exact absurd h (by show ¬ (n + 12 < 12); omega)
        · intro VV w5 hlen hb5 hok
          match VV, hlen with
          | [v0, v1, v2, v3, v4, v5, v6, v7, v8, v9, v10, v11], _ =>
            obtain rfl : v0 = .bool true := hok 0 49 rfl
            obtain rfl : v1 = .bool true := hok 1 50 rfl
            obtain rfl : v2 = .agg (scs sv).toArray := hok 2 51 rfl
            obtain rfl : v3 = .pointer (some ⟨bf, 0, none⟩) := hok 3 52 rfl
            obtain rfl : v4 = .int .i64 (nm : Int) := hok 4 53 rfl
            obtain rfl : v5 = .pointer (some ⟨bf, 0, none⟩) := hok 5 54 rfl
            obtain rfl : v6 = .pointer (some ⟨bf, 96, none⟩) := hok 6 55 rfl
            obtain rfl : v7 = .pointer (some ⟨bf, 96 + nm * 4, none⟩) := hok 7 56 rfl
            obtain rfl : v8 = .agg (scs (F.fol nm)).toArray := hok 8 57 rfl
            obtain rfl : v9 = .bool mb := hok 9 58 rfl
            obtain rfl : v10 = .bool mb := hok 10 59 rfl
            obtain rfl : v11 = .bool mb := hok 11 6 rfl
            have HW5 : Hid (Below w.heap.size w w5) := Lib.hid (below_trans HW.out (hb5.mono HW.out.size))
            clear hb5 hok LS LF ME
            simp only [List.zip_cons_cons, List.zip_nil_right, putsL]
            go_simp
            go_wp2
            go_ret
            exact ⟨mb, rfl, fun e => ⟨(sv, true), by rw [← HKN.out]; exact HK.out, fun _ => by have := HMB.out; rw [e] at this; simpa using this.symm⟩, HW5.out⟩
end Go.Proofs.YtiebpmpjclnpeaaDoor
