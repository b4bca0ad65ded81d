/- Bundle 11 of the texts LdG, LdH, LdI, LdJ, LdK. -/
import Derived.Test.YtjfpoahmjgeogaaGreatDoorIc10
/- loader: region, Active, Generation, Entries, Begin, Chunk. -/
namespace Nac.Img
def imgB (o : Option (List UInt8 × Nat)) : List UInt8 := (o.map (·.1)).getD []
def imgV (o : Option (List UInt8 × Nat)) : Nat := (o.map (·.2)).getD 0
end Nac.Img
namespace Go.Proofs.YtjfpoahmjgeogaaGreatDoor
open Go.RowKit Nac Nac.Img Nac.Sha Nac.Crc
section
variable {w : World} {ops : Array Oper} {Q : Exit → Act → World → Prop} {D : Nat → Value → Prop} {J : (Nat → Bool) → World → Prop} {a0 : Act} {i : Nat} {o : Oper}
theorem vstep_storeMB {T : TypeId} {n : Nat} (hS : SInfo T n) (x y : Tmp) (b k : Nat) (cs : List Value) (hl : cs.length = n) (h1 : ∀ v ∈ cs, v.oneCell' = true) (ho : ops[i]? = some o) (hw : ∀ L a w, VCtx ops D J a0 i L a w → Region.wanted o (yielded ops a.tmps) = true) (hop : o.op = .store T (.tmp x) (.tmp y))
    (hx : ∀ L a w, VCtx ops D J a0 i L a w → a.tmps.getD x undef = .pointer (some ⟨b, k, none⟩)) (hy : ∀ L a w, VCtx ops D J a0 i L a w → a.tmps.getD y undef = .agg cs.toArray)
    (hb : ∀ L w, J L w → L i = false → ∃ cs0, k + n ≤ cs0.length ∧ Blk w b cs0 ∧ ∀ w', Blk w' b (cs0.take k ++ cs ++ cs0.drop (k + cs.length)) → w.grownBy w' (some b) → J (upd L i) w') (hD : D i undef) : VStep Tryz.prog ops Q D J a0 i := by
  intro o' ho' L a w c
  rw [ho] at ho'
  obtain rfl := Option.some.inj ho'
  rw [if_pos (hw L a w c)]
  obtain ⟨cs0, hk, hbl, hnext⟩ := hb L w c.world c.fresh
  have e1 : a.eval (.tmp x) = .pointer (some ⟨b, k, none⟩) := hx L a w c
  have e2 : a.eval (.tmp y) = .agg cs.toArray := hy L a w c
  have hr := run_storeAt_mid w b k T cs.toArray (hbl.there k _ (by simpa [hl] using hk)) (by rw [hS.info]; simp [hl]) (all_oneCell_toArray h1)
  have hr2 : (execOp a.eval o).run Tryz.prog w = .ok .skip (w.setCells b k cs.toArray.toList) := by
    unfold execOp
    simp only [hop, e1, e2, Sem.run_bind, hr, Sem.run_pure, Result.andThen_ok]
  unfold Oper.wp
  rw [hr2]
  exact ⟨undef, rfl, hD, hnext _ (by simpa using hbl.setCells cs k (by omega)) (by simpa using grown_setCells b cs k w)⟩
end
section
variable {w w' : World} {B bl br bg bs bq ce bd n : Nat} {Ae : Option Addr} {r : Reg} {stg : Bool} {S cs : List Value}
theorem LdM.lt (h : LdM w B bl br bg bs bq Ae ce bd r stg S n) : bl < w.heap.size ∧ br < w.heap.size ∧ bs < w.heap.size ∧ bq < w.heap.size := ⟨h.lb.lt, by obtain ⟨_, h1, _⟩ := h.rb; exact h1.lt, Blk.lt h.ps, Blk.lt h.pq⟩
theorem LdM.below (h : LdM w B bl br bg bs bq Ae ce bd r stg S n) (hb : Below w.heap.size w w') : LdM w' B bl br bg bs bq Ae ce bd r stg S n :=
  ⟨h.lb.below hb h.lb.lt, by obtain ⟨cs, h1, h2⟩ := h.rb; exact ⟨cs, h1.below hb h1.lt, regc_below h2 hb⟩, h.log.below hb, Blk.below h.ps hb (Blk.lt h.ps), Blk.below h.pq hb (Blk.lt h.pq), h.old, h.ne, h.nae⟩
theorem regc_open (h : RegC w B br bs r stg S cs) : ∃ (A : Option Addr) (c : Nat), cs = rcells bs r.gen r.bank r.img.isSome A (imgB r.img).length c (imgV r.img) stg S ∧ (imgB r.img).length ≤ c ∧ RB w w.heap.size A (imgB r.img) ∧ (∀ g, A.map (·.block) = some g → B ≤ g ∧ g ≠ br) ∧ (r.img = none → A = none ∧ c = 0) := by
  obtain ⟨g, k, im⟩ := r
  unfold RegC at h
  cases im with
  | none => exact ⟨none, 0, h, Nat.le_refl _, fun e => absurd rfl e, fun g e => (by cases e), fun _ => ⟨rfl, rfl⟩⟩
  | some x =>
  obtain ⟨b, v⟩ := x
  obtain ⟨A, c, h1, h2, h3, h4⟩ := h
  exact ⟨A, c, h1, h2, h3, h4, fun e => (by cases e)⟩
theorem regc_close {A : Option Addr} {c : Nat} (h2 : (imgB r.img).length ≤ c) (h3 : RB w w.heap.size A (imgB r.img)) (h4 : ∀ g, A.map (·.block) = some g → B ≤ g ∧ g ≠ br) (h5 : r.img = none → A = none ∧ c = 0) : RegC w B br bs r stg S (rcells bs r.gen r.bank r.img.isSome A (imgB r.img).length c (imgV r.img) stg S) := by
  obtain ⟨g, k, im⟩ := r
  unfold RegC
  cases im with
  | none => obtain ⟨rfl, rfl⟩ := h5 rfl; rfl
  | some x => exact ⟨A, c, rfl, h2, h3, h4⟩
theorem rb_kept {A : Option Addr} {l : List UInt8} {b : Nat} (h : RB w w.heap.size A l) (hg : w.grownBy w' (some b)) (hn : ∀ g, A.map (·.block) = some g → g ≠ b) : RB w' w'.heap.size A l := fun hne => by
  obtain ⟨g, o, hA, hl, hc⟩ := h hne
  refine ⟨g, o, hA, Nat.lt_of_lt_of_le hl hg.size, fun j hj => ?_⟩
  rw [← hc j hj]
  unfold World.cell?
  rw [hg.block g hl (fun e => by injection e with e; exact hn g (by rw [hA]; rfl) e)]
theorem LdM.sto {stg' : Bool} {S' cs' : List Value} (h : LdM w B bl br bg bs bq Ae ce bd r stg S n) (hg : w.grownBy w' (some br)) (hb : Blk w' br cs') (hc : RegC w' B br bs r stg' S' cs') : LdM w' B bl br bg bs bq Ae ce bd r stg' S' n :=
  ⟨h.lb.grown hg (fun e => h.ne.1 (by injection e with e; exact e.symm)), ⟨cs', hb, hc⟩, h.log.upd (Upd.grown (O := fun k => k = br) hg (fun j e => by injection e with e; exact e.symm)) (fun e => h.ne.2.2.1 e.symm) (fun g hg' e => (h.nae g hg').2.1 e),
   Blk.grown h.ps hg (fun e => h.ne.2.2.2.2.1 (by injection e with e; exact e.symm)), Blk.grown h.pq hg (fun e => h.ne.2.2.2.2.2.2.2.1 (by injection e with e; exact e.symm)), h.old, h.ne, h.nae⟩
end
section
variable (w : World) {B bl br bg bs bq ce bd n : Nat} {Ae : Option Addr} {r : Reg} {stg : Bool} {S : List Value}
set_option maxRecDepth 100000 in
set_option maxHeartbeats 4000000 in
theorem lregion_calls (h : LdM w B bl br bg bs bq Ae ce bd r stg S n) : Calls Tryz.prog 36 #[.pointer (some ⟨bl, 0, none⟩), .int .i64 0] w (fun e w' => e = .returned (.pointer (some ⟨br, 0, none⟩)) ∧ w' = w) := by
  have k0 : w.cell? ⟨bl, 0, none⟩ = some (.slice (some ⟨br, 0, none⟩) 1 1) := h.lb.cell rfl
  clear h
  go_enter Tryz.func36, Tryz.ntmps36
  go_wp2
  go_ret
  exact ⟨rfl, rfl⟩
def AcV (w0 : World) (img : Option (List UInt8 × Nat)) (v : Value) (w : World) : Prop := ∃ (A : Option Addr) (c : Nat), v = .slice A (imgB img).length c ∧ (imgB img).length ≤ c ∧ RB w w.heap.size A (imgB img) ∧ (∀ g, A.map (·.block) = some g → w0.heap.size ≤ g)
def acVD (w0 : World) (img : Option (List UInt8 × Nat)) : VD := .pr (AcV w0 img) (fun _ _ _ ⟨A, c, h1, h2, h3, h4⟩ hb => ⟨A, c, h1, h2, (h3.below hb).mono hb.size, h4⟩)
def RetAc (w : World) (img : Option (List UInt8 × Nat)) (e : Ending) (w' : World) : Prop := ∃ v, AcV w img v w' ∧ e = .returned (.tuple #[v, .int .u32 (imgV img : Int), .bool img.isSome]) ∧ Below w.heap.size w w'
set_option maxRecDepth 100000 in
set_option maxHeartbeats 4000000 in
theorem lactive_calls (h : LdM w B bl br bg bs bq Ae ce bd r stg S n) (hb : ∀ b v, r.img = some (b, v) → 0 < b.length ∧ b.length ≤ 1000000) : Calls Tryz.prog 15 #[.pointer (some ⟨bl, 0, none⟩), .int .i64 0] w (RetAc w r.img) := by
  have HRG := Lib.hid (lregion_calls w h)
  obtain ⟨cs, h1, h2⟩ := h.rb
  obtain ⟨A, c, rfl, h3, h4, h5, h6⟩ := regc_open h2
  cases hi : r.img with
  | none =>
    rw [hi] at h1
    have k3 : w.cell? ⟨br, 3, none⟩ = some (.bool false) := h1.cell rfl
    clear h h1 h2 h3 h4 h5 h6 hi hb
    go_enter Tryz.func15, Tryz.ntmps15
    go_wp2_with fail
    go_at_call 36
    with_reducible refine HRG.out.mono ?_
    rintro e w1 ⟨rfl, rfl⟩
    clear HRG
    go_wp2_with fail
    go_ret3
    exact ⟨_, ⟨none, 0, rfl, Nat.le_refl _, fun e => absurd rfl e, fun g e => by cases e⟩, rfl, Below.refl _ _⟩
  | some x =>
  obtain ⟨b, v⟩ := x
  obtain ⟨hb1, hb2⟩ := hb b v hi
  rw [hi] at h1 h3 h4
  have k3 : w.cell? ⟨br, 3, none⟩ = some (.bool true) := h1.cell rfl
  have C4 : Hid (∀ w', Below w.drew.heap.size w.drew w' → w'.cell? ⟨br, 4, none⟩ = some (.slice A b.length c) ∧ w'.cell? ⟨br, 5, none⟩ = some (.int .u32 (v : Int))) := Lib.hid fun w' hb => ⟨(h1.keep (hb.block br h1.lt)).cell rfl, (h1.keep (hb.block br h1.lt)).cell rfl⟩
  obtain ⟨n0, hn0⟩ : ∃ n0, n0 = b.length := ⟨_, rfl⟩
  rw [← hn0] at C4
  have CLN : Hid (∀ w', Below w.drew.heap.size w.drew w' → Calls Tryz.prog 45 #[.slice A n0 c] w' (fun e w'' => ∃ u, e = .returned u ∧ (acVD w (some (b, v))).ok u w'' ∧ Below w'.heap.size w' w'')) := Lib.hid fun w' hbw => by
    have hbb : Below w.heap.size w w' := ⟨hbw.os, hbw.tape, hbw.output, hbw.size, hbw.block⟩
    refine (cloneb_calls w' A n0 c b hn0 ((RB.below h4 hbb).mono hbb.size) (fun e => by
      obtain ⟨g, o, hA, _⟩ := h4 (fun e' => by rw [show imgB (some (b, v)) = b from rfl] at e'; rw [e'] at hb1; exact absurd hb1 (by decide))
      rw [hA] at e
      cases e) (by omega)).mono ?_
    rintro e w'' ⟨A', c', rfl, q1, q2, q3, q4⟩
    exact ⟨_, rfl, ⟨A', c', rfl, q1, q2, fun g hg => Nat.le_trans hbb.size (q3 g hg)⟩, q4⟩
  clear h h1 h2 h3 h4 h5 h6 hi hb hb1 hb2 hn0
  go_enter Tryz.func15, Tryz.ntmps15
  go_wp2_with fail
  go_at_call 36
  with_reducible refine HRG.out.mono ?_
  rintro e w1 ⟨rfl, rfl⟩
  clear HRG
  go_wp2_with fail

  refine region_monos (fun ix9 => ([.is (.pointer (some ⟨br, 0, none⟩)), .is (.pointer (some ⟨br, 0, none⟩)), .is (.pointer (some ⟨br, 4, none⟩)), .is (.slice A n0 c), acVD w1 (some (b, v)), .is (.pointer (some ⟨br, 0, none⟩)), .is (.pointer (some ⟨br, 0, none⟩)), .is (.pointer (some ⟨br, 5, none⟩)), .is (.int .u32 (v : Int)), acVD w1 (some (b, v)), .is (.int .u32 (v : Int)), .is (.bool true)] : List VD).getD ix9 (.is undef)) [some 20, some 21, some 22, some 23, some 24, some 25, some 26, some 27, some 28, some 4, some 5, some 6] (by kernel_rfl) (by kernel_rfl) (by kernel_rfl) rfl (fun ii hii => ?_) ?_
  · match ii, hii with
    | 0, _ => exact mstep_first rfl (mwant_none rfl) 7 (Or.inl rfl) (by kernel_rfl) (fun _ _ => rfl)
    | 1, _ => exact mstep_pure rfl (mwant_none rfl) (fun aa ww cc => ⟨.pointer (some ⟨br, 0, none⟩), by have e0 : aa.tmps.getD 20 undef = .pointer (some ⟨br, 0, none⟩) := cc.slot 0 20 (by kernel_rfl) rfl; simp only [execOp, Act.eval]; go_simp, rfl⟩)
    | 2, _ => exact mstep_pure rfl (mwant_none rfl) (fun aa ww cc => ⟨.pointer (some ⟨br, 4, none⟩), by have e0 : aa.tmps.getD 21 undef = .pointer (some ⟨br, 0, none⟩) := cc.slot 1 21 (by kernel_rfl) rfl; simp only [execOp, Act.eval]; go_simp, rfl⟩)
    | 3, _ => exact mstep_pure rfl (mwant_none rfl) (fun aa ww cc => ⟨.slice A n0 c, by have e0 : aa.tmps.getD 22 undef = .pointer (some ⟨br, 4, none⟩) := cc.slot 2 22 (by kernel_rfl) rfl; obtain ⟨q1, q2⟩ := C4.out _ cc.below; simp only [execOp, Act.eval]; go_simp, rfl⟩)
    | 4, _ => exact mstep_call rfl (mwant_none rfl) _ _ _ rfl (enters_of Tryz.func45 (by kernel_rfl) rfl) (fun aa ww cc => by have e0 : aa.tmps.getD 23 undef = .slice A n0 c := cc.slot 3 23 (by kernel_rfl) rfl; simp only [List.map_toArray, List.map_cons, List.map_nil, Act.eval, e0]; exact CLN.out ww cc.below)
    | 5, _ => exact mstep_first rfl (mwant_none rfl) 7 (Or.inl rfl) (by kernel_rfl) (fun _ _ => rfl)
    | 6, _ => exact mstep_pure rfl (mwant_none rfl) (fun aa ww cc => ⟨.pointer (some ⟨br, 0, none⟩), by have e0 : aa.tmps.getD 25 undef = .pointer (some ⟨br, 0, none⟩) := cc.slot 5 25 (by kernel_rfl) rfl; simp only [execOp, Act.eval]; go_simp, rfl⟩)
    | 7, _ => exact mstep_pure rfl (mwant_none rfl) (fun aa ww cc => ⟨.pointer (some ⟨br, 5, none⟩), by have e0 : aa.tmps.getD 26 undef = .pointer (some ⟨br, 0, none⟩) := cc.slot 6 26 (by kernel_rfl) rfl; simp only [execOp, Act.eval]; go_simp, rfl⟩)
    | 8, _ => exact mstep_pure rfl (mwant_none rfl) (fun aa ww cc => ⟨.int .u32 (v : Int), by have e0 : aa.tmps.getD 27 undef = .pointer (some ⟨br, 5, none⟩) := cc.slot 7 27 (by kernel_rfl) rfl; obtain ⟨q1, q2⟩ := C4.out _ cc.below; simp only [execOp, Act.eval]; go_simp, rfl⟩)
    | 9, _ => exact mstep_copy rfl (mwant_none rfl) 24 (Or.inr rfl) 4 (by kernel_rfl) rfl rfl
    | 10, _ => exact mstep_copy rfl (mwant_none rfl) 28 (Or.inr rfl) 8 (by kernel_rfl) rfl rfl
    | 11, _ => exact mstep_const rfl (mwant_none rfl) _ (Or.inr rfl) rfl
    | n + 12, h => exact absurd h (by show ¬ (n + 12 < 12); omega)
  · intro VV w5 hlen hb5 hok
    match VV, hlen with
    | [v0, v1, v2, v3, v4, v5, v6, v7, v8, v9, v10, v11], _ =>
      obtain rfl : v0 = .pointer (some ⟨br, 0, none⟩) := hok 0 20 rfl
      obtain rfl : v1 = .pointer (some ⟨br, 0, none⟩) := hok 1 21 rfl
      obtain rfl : v2 = .pointer (some ⟨br, 4, none⟩) := hok 2 22 rfl
      obtain rfl : v3 = .slice A n0 c := hok 3 23 rfl
      have p4 := hok 4 24 rfl
      obtain rfl : v5 = .pointer (some ⟨br, 0, none⟩) := hok 5 25 rfl
      obtain rfl : v6 = .pointer (some ⟨br, 0, none⟩) := hok 6 26 rfl
      obtain rfl : v7 = .pointer (some ⟨br, 5, none⟩) := hok 7 27 rfl
      obtain rfl : v8 = .int .u32 (v : Int) := hok 8 28 rfl
      have p9 := hok 9 4 rfl
      obtain rfl : v10 = .int .u32 (v : Int) := hok 10 5 rfl
      obtain rfl : v11 = .bool true := hok 11 6 rfl
      have HV := Lib.hid p9
      have HE : Hid (Below w1.heap.size w1 w5) := Lib.hid ⟨hb5.os, hb5.tape, hb5.output, hb5.size, hb5.block⟩
      clear p4 hok hb5 CLN C4 p9 k3
      simp only [List.zip_cons_cons, List.zip_nil_right, putsL]
      go_simp
      go_wp2_with fail
      go_ret3
      exact ⟨_, HV.out, rfl, HE.out⟩
set_option maxRecDepth 100000 in
set_option maxHeartbeats 4000000 in
theorem lgeneration_calls (h : LdM w B bl br bg bs bq Ae ce bd r stg S n) : Calls Tryz.prog 23 #[.pointer (some ⟨bl, 0, none⟩), .int .i64 0] w (fun e w' => e = .returned (.int .u32 (r.gen : Int)) ∧ w' = w) := by
  have HRG := Lib.hid (lregion_calls w h)
  obtain ⟨cs, h1, h2⟩ := h.rb
  obtain ⟨A, c, rfl, _⟩ := regc_open h2
  have k1 : w.cell? ⟨br, 1, none⟩ = some (.int .u32 (r.gen : Int)) := h1.cell rfl
  clear h h1 h2
  go_enter Tryz.func23, Tryz.ntmps23
  go_wp2_with fail
  go_at_call 36
  with_reducible refine HRG.out.mono ?_
  rintro e w1 ⟨rfl, rfl⟩
  clear HRG
  go_wp2_with fail
  go_ret
  exact ⟨rfl, rfl⟩
end
end Go.Proofs.YtjfpoahmjgeogaaGreatDoor
/- loader: Entries, Begin, Chunk. -/
namespace Go.Proofs.YtjfpoahmjgeogaaGreatDoor
open Go.RowKit Nac Nac.Img Nac.Sha Nac.Crc
section
variable {P : Program} {ops : Array Oper} {Q : Exit → Act → World → Prop} {D : Nat → VD} {a0 : Act} {W0 : World} {i : Nat} {o : Oper}
theorem mstep_unwanted (ho : ops[i]? = some o) (j : Nat) (want : Bool) (d : Tmp) (hg : o.guard = some (j, want)) (hj : (preds ops 3 i).contains j = true) (hdj : dstOf ops j = some d) (hD : D j = .is (.bool (!want)) ∨ D j = .is undef) (hlt : decide (d < a0.tmps.size) = true)
    (hu : D i = .is undef) : MStep P ops Q D a0 W0 i := by
  intro o' ho' a w c
  rw [ho] at ho'
  obtain rfl := Option.some.inj ho'
  have hsz := c.tsize
  have h := c.pred j d (by simpa using hj) hdj
  have hlt : d < a.tmps.size := by
    rw [hsz]
    simpa using hlt
  have h : a.tmps.getD d undef = .bool (!want) ∨ a.tmps.getD d undef = undef := by
    rcases hD with hD | hD
    · rw [hD] at h; exact .inl h
    · rw [hD] at h; exact .inr h
  have hy : Region.wanted o (yielded ops a.tmps) = false := by
    have hy : yielded ops a.tmps j = some (!want) ∨ yielded ops a.tmps j = none := by
      unfold yielded
      have hdj' : (ops[j]?).bind (·.dst) = some d := hdj
      rw [hdj']
      rw [Array.getD_eq_getD_getElem?, Array.getElem?_eq_getElem hlt] at h
      simp only [Option.getD_some] at h
      rcases h with h | h
      · left; simp [Array.getElem?_eq_getElem hlt, h]
      · right; simp [Array.getElem?_eq_getElem hlt, h, undef]
    rcases hy with hy | hy <;> cases want <;> simp [Region.wanted, hg, hy]
  rw [if_neg (by rw [hy]; simp), hu]
  rfl
end
section
variable (w : World) {B bl br bg bs bq ce bd n : Nat} {Ae : Option Addr} {r : Reg} {stg : Bool} {S : List Value}
set_option maxRecDepth 100000 in
set_option maxHeartbeats 4000000 in
theorem lentries_calls (h : LdM w B bl br bg bs bq Ae ce bd r stg S n) (hn : n ≤ 1000) : Calls Tryz.prog 22 #[.pointer (some ⟨bl, 0, none⟩)] w (RetN w n) := by
  have HC := Lib.hid (aentries_calls w bg bq n Ae ce h.log hn)
  have k1 : w.cell? ⟨bl, 1, none⟩ = some (.pointer (some ⟨bg, 0, none⟩)) := h.lb.cell rfl
  clear h
  go_enter Tryz.func22, Tryz.ntmps22
  go_wp2_with fail
  go_at_call 40
  with_reducible refine HC.out.mono ?_
  rintro e w1 ⟨A, c, rfl, hb⟩
  go_wp2_with fail
  go_ret
  exact ⟨A, c, rfl, hb⟩
def St2 (bs : Nat) (r : Reg) (A : Option Addr) (c : Nat) (stg : Bool) (S ss : List Value) (L : Nat → Bool) : List Value :=
  rcells bs r.gen r.bank r.img.isSome A (imgB r.img).length c (imgV r.img) (if L 5 = true then true else stg) (if L 8 = true then ss else S)
theorem St2_pure {bs : Nat} {r : Reg} {A : Option Addr} {c : Nat} {stg : Bool} {S ss : List Value} {L : Nat → Bool} {k : Nat} (h1 : 5 ≠ k) (h2 : 8 ≠ k) : St2 bs r A c stg S ss (upd L k) = St2 bs r A c stg S ss L := by
  unfold St2; rw [upd_ne h1, upd_ne h2]
theorem St2_5 {bs : Nat} {r : Reg} {A : Option Addr} {c : Nat} {stg : Bool} {S ss : List Value} {L : Nat → Bool} : St2 bs r A c stg S ss (upd L 5) = (St2 bs r A c stg S ss L).set 6 (.bool true) := by
  unfold St2; rw [upd_eq, upd_ne (show 8 ≠ 5 by decide)]; rfl
theorem St2_8 {bs : Nat} {r : Reg} {A : Option Addr} {c : Nat} {stg : Bool} {S ss : List Value} {L : Nat → Bool} (h : S.length = 36) (h' : ss.length = 36) : St2 bs r A c stg S ss (upd L 8) = (St2 bs r A c stg S ss L).take 7 ++ ss ++ (St2 bs r A c stg S ss L).drop (7 + ss.length) := by
  unfold St2
  rw [upd_eq, upd_ne (show 5 ≠ 8 by decide), if_pos rfl, h']
  have e : (rcells bs r.gen r.bank r.img.isSome A (imgB r.img).length c (imgV r.img) (if L 5 = true then true else stg) (if L 8 = true then ss else S)).drop (7 + 36) = [] := List.drop_of_length_le (by
    show _ + 7 ≤ _
    split
    · rw [h']; decide
    · rw [h]; decide)
  rw [e, List.append_nil]
  rfl
theorem St2_len {bs : Nat} {r : Reg} {A : Option Addr} {c : Nat} {stg : Bool} {S ss : List Value} {L : Nat → Bool} (h : S.length = 36) (h' : ss.length = 36) : (St2 bs r A c stg S ss L).length = 43 := by
  unfold St2
  show _ + 7 = _
  split
  · rw [h']
  · rw [h]
def K4 (w w' : World) (br : Nat) : Prop := ∀ v, w.cell? ⟨br, 4, none⟩ = some v → w'.cell? ⟨br, 4, none⟩ = some v
def RetBe (w : World) (B bl br bg bs bq : Nat) (Ae : Option Addr) (ce bd : Nat) (r : Reg) (m : Man) (n : Nat) (e : Ending) (w' : World) : Prop := e = .returned (.int .i64 0) ∧ LdM w' B bl br bg bs bq Ae ce bd r true (scells m none 0 0) n ∧ w.grownBy w' (some br) ∧ K4 w w' br
theorem LdM.regS (h : LdM w B bl br bg bs bq Ae ce bd r stg S n) (_h36 : S.length = 36) : ∃ (A : Option Addr) (c : Nat), Blk w br (rcells bs r.gen r.bank r.img.isSome A (imgB r.img).length c (imgV r.img) stg S) ∧ (imgB r.img).length ≤ c ∧ RB w w.heap.size A (imgB r.img) ∧ (∀ g, A.map (·.block) = some g → B ≤ g ∧ g ≠ br) ∧ (r.img = none → A = none ∧ c = 0) := by
  obtain ⟨cs, h1, h2⟩ := h.rb
  obtain ⟨A, c, rfl, h3⟩ := regc_open h2
  exact ⟨A, c, h1, h3⟩
set_option maxRecDepth 100000 in
set_option maxHeartbeats 8000000 in
theorem lbegin_calls (h : LdM w B bl br bg bs bq Ae ce bd r stg S n) (h36 : S.length = 36) (m : Man) (h32 : m.sum.length = 32) (hok : m.okB = true) (hp : m.part = 0) (hv : ∀ b v, r.img = some (b, v) → v < m.ver) :
    Calls Tryz.prog 10 #[.pointer (some ⟨bl, 0, none⟩), .agg (mcells m).toArray] w (RetBe w B bl br bg bs bq Ae ce bd r m n) := by
  have H := Lib.hid h
  have HM35 : Hid ((mcells m).length = 35) := Lib.hid (mcells_len m h32)
  obtain ⟨ms, hms⟩ : ∃ ms, ms = mcells m := ⟨_, rfl⟩
  obtain ⟨ss, hss⟩ : ∃ ss, ss = scells m none 0 0 := ⟨_, rfl⟩
  obtain ⟨zs, hzs⟩ : ∃ zs, zs = scells zMan none 0 0 := ⟨_, rfl⟩
  have ZS : Hid (((Tryz.prog.info? 87).bind (·.zero)) = some (.agg zs.toArray) ∧ zs.length = 36) := Lib.hid ⟨by rw [hzs]; exact zeroStg, by rw [hzs]; exact scells_len zMan rfl _ _ _⟩
  have HSS : Hid (ss.length = 36 ∧ ∀ v ∈ ss, v.oneCell' = true) := Lib.hid (by rw [hss]; exact ⟨scells_len m h32 _ _ _, scells_one m _ _ _⟩)
  have HIB : Hid (∀ w, Calls Tryz.prog 35 #[.agg ms.toArray] w (fun e w' => e = .returned (.tuple #[.agg ss.toArray, .int .i64 0]) ∧ Below w.heap.size w w')) := Lib.hid fun w => by
    rw [hms, hss]
    refine (ibegin_calls w m h32).mono ?_
    rintro e w' ⟨rfl, hb⟩
    rw [hok]
    exact ⟨rfl, hb⟩
  have HRT : Hid (∀ w', LdM w' B bl br bg bs bq Ae ce bd r true ss n → w.grownBy w' (some br) → K4 w w' br → RetBe w B bl br bg bs bq Ae ce bd r m n (.returned (.int .i64 0)) w') := Lib.hid fun w' h1 h2 h3 => by rw [hss] at h1; exact ⟨rfl, h1, h2, h3⟩
  have HC0 : Hid (ms[0]? = some (.int .i64 0) ∧ ms[1]? = some (.int .u32 (m.ver : Int))) := Lib.hid (by rw [hms]; unfold mcells; rw [hp]; exact ⟨rfl, rfl⟩)
  have HV : Hid (r.img.isSome = true → imgV r.img < m.ver) := Lib.hid (fun e => by
    cases hi : r.img with
    | none => rw [hi] at e; cases e
    | some x => have := hv x.1 x.2 hi; simp only [imgV, Option.map_some, Option.getD_some]; exact this)
  have H36 := Lib.hid h36
  rw [← hms]
  rw [← hms] at HM35
  clear h h36 hms hss hzs h32 hok hp hv
  go_enter Tryz.func10, Tryz.ntmps10
  go_wp2_with (((with_reducible show wpList _ _ _ (Oper.mk _ (Op.box 47 _) _ _ _ _ :: _) _ _); refine wpList_boxS rfl _ rfl ms (by rfl) ?_))
  intro w1 hb1 hg1 hs1
  obtain ⟨b3, hB3⟩ : ∃ b3, b3 = w.heap.size := ⟨_, rfl⟩
  have HB3 := Lib.hid hB3
  rw [← hB3] at hb1 ⊢
  have HB1 := Lib.hid hb1
  have HE1 : Hid (Below w.heap.size w w1) := Lib.hid (gbelow hg1)
  clear hb1 hg1 hs1 hB3
  go_wp2_with (((with_reducible show wpList _ _ _ (Oper.mk (some 9) (Op.load 47 _) _ _ _ _ :: _) _ _); refine wpList_loadS sMan rfl _ rfl b3 ms rfl HB1.out HM35.out ?_))
  go_at_call 35
  with_reducible refine (HIB.out w1).mono ?_
  rintro e w2 ⟨rfl, hb2⟩
  have HB2 : Hid (Blk w2 b3 ms) := Lib.hid (HB1.out.below hb2 HB1.out.lt)
  have HE2 : Hid (Below w.heap.size w w2) := Lib.hid (HE1.out.trans (hb2.mono HE1.out.size))
  clear hb2 HB1 HE1 HIB
  go_wp2_with (((with_reducible show wpList _ _ _ (Oper.mk (some 5) (Op.alloc 87) _ _ _ _ :: _) _ _); refine wpList_allocS _ ZS.out.1 rfl rfl ?_))
  intro w3 hb3 hg3 hs3
  obtain ⟨b5, hB5⟩ : ∃ b5, b5 = w2.heap.size := ⟨_, rfl⟩
  have HB5 := Lib.hid hB5
  rw [← hB5] at hb3 ⊢
  have HZ3 := Lib.hid hb3
  have HB3' : Hid (Blk w3 b3 ms) := Lib.hid (HB2.out.grown hg3 (by simp))
  have HE3 : Hid (Below w.heap.size w w3) := Lib.hid (HE2.out.trans ((gbelow hg3).mono HE2.out.size))
  have HLT : Hid (w.heap.size ≤ b3 ∧ b3 < b5) := Lib.hid ⟨Nat.le_of_eq HB3.out.symm, by rw [hB5]; exact HB2.out.lt⟩
  clear hb3 hg3 hs3 hB5 HB2 HE2
  go_wp2_with (((with_reducible show wpList _ _ _ (Oper.mk _ (Op.store 87 _ _) _ _ _ _ :: _) _ _); refine wpList_storeS sStg rfl _ _ rfl b5 _ ss rfl rfl HZ3.out ZS.out.2 HSS.out.1 HSS.out.2 ?_))
  intro w4 hb4 hg4
  have HS4 := Lib.hid hb4
  have HB4 : Hid (Blk w4 b3 ms) := Lib.hid (HB3'.out.grown hg4 (fun e => by injection e with e; have := HLT.out.2; omega))
  have HE4 : Hid (Below w.heap.size w w4) := Lib.hid (HE3.out.grown hg4 HE3.out.size (fun j e => by injection e with e; have := HLT.out; omega))
  have H4 : Hid (LdM w4 B bl br bg bs bq Ae ce bd r stg S n) := Lib.hid (H.out.below HE4.out)
  have HRG := Lib.hid (lregion_calls w4 H4.out)
  have c0 : w4.cell? ⟨b3, 0, none⟩ = some (.int .i64 0) := HB4.out.cell HC0.out.1
  clear hb4 hg4 HB3' HE3 HZ3
  go_wp2_with fail
  go_at_call 36
  with_reducible refine HRG.out.mono ?_
  rintro e w4 ⟨rfl, rfl⟩
  clear HRG c0
  obtain ⟨A, c, hR⟩ := H4.out.regS _ H36.out
  have HR := Lib.hid hR
  obtain ⟨has, hhas⟩ : ∃ x, x = r.img.isSome := ⟨_, rfl⟩
  obtain ⟨vr, hvr⟩ : ∃ x, x = imgV r.img := ⟨_, rfl⟩
  have CR : Hid (∀ w', Below w4.drew.heap.size w4.drew w' → w'.cell? ⟨br, 3, none⟩ = some (.bool has) ∧ w'.cell? ⟨br, 5, none⟩ = some (.int .u32 (vr : Int)) ∧ w'.cell? ⟨b3, 1, none⟩ = some (.int .u32 (m.ver : Int))) := Lib.hid fun w' hb => by
    rw [hhas, hvr]
    have h1 := HR.out.1.keep (hb.block br HR.out.1.lt)
    exact ⟨h1.cell rfl, h1.cell rfl, (HB4.out.keep (hb.block b3 HB4.out.lt)).cell HC0.out.2⟩
  have HLE : Hid (has = true → vr < m.ver) := Lib.hid (fun e => by rw [hhas] at e; have := HV.out e; rw [hvr]; exact this)
  clear hR hhas hvr HV
  obtain ⟨mv, hmv⟩ : ∃ x, x = m.ver := ⟨_, rfl⟩
  rw [← hmv] at CR HLE
  clear hmv
  have FIN : Hid (∀ (w5 : World), Below w4.heap.size w4 w5 → Hid (LdM w5 B bl br bg bs bq Ae ce bd r stg S n ∧ Blk w5 b5 ss ∧ Below w.heap.size w w5 ∧ Blk w5 br (rcells bs r.gen r.bank r.img.isSome A (imgB r.img).length c (imgV r.img) stg S))) := Lib.hid fun w5 hb => Lib.hid ⟨H4.out.below hb, HS4.out.below hb HS4.out.lt, HE4.out.trans (hb.mono HE4.out.size), HR.out.1.below hb HR.out.1.lt⟩
  have GO : Hid (∀ (w5 : World), Below w4.heap.size w4 w5 → ∀ w9, w5.grownBy w9 (some br) → Blk w9 br (rcells bs r.gen r.bank r.img.isSome A (imgB r.img).length c (imgV r.img) true ss) → RetBe w B bl br bg bs bq Ae ce bd r m n (.returned (.int .i64 0)) w9) := Lib.hid fun w5 hb w9 hg hbk => by
    have F := (FIN.out w5 hb).out
    refine HRT.out w9 (F.1.sto hg hbk (regc_close HR.out.2.1 (rb_kept (((HR.out.2.2.1).below hb).mono hb.size) hg fun g hg' => (HR.out.2.2.2.1 g hg').2) HR.out.2.2.2.1 HR.out.2.2.2.2)) ?_ ?_
    · exact (Only.below F.2.2.1).trans hg
    · intro v hv
      have h1 := F.2.2.1.cell (p := ⟨br, 4, none⟩) H.out.lt.2.1
      rw [hv] at h1
      have h2 := F.2.2.2.cell (j := 4) rfl
      rw [h1] at h2
      rw [h2]
      exact hbk.cell rfl
  have HNE : Hid (b5 ≠ br) := Lib.hid (by have := H.out.lt.2.1; have := HLT.out; omega)
  cases has with
  | false =>
    clear H H4 HR HB4 HS4 HE4 HRT HLE HB3 HB5 ZS HM35 HC0
    go_wp2_with fail
    refine region_monos (fun ix9 => ([.is (.pointer (some ⟨br, 0, none⟩)), .is (.pointer (some ⟨br, 0, none⟩)), .is (.pointer (some ⟨br, 3, none⟩)), .is (.bool false), .is (.bool false), .is (undef), .is (undef), .is (undef), .is (undef), .is (undef), .is (undef), .is (undef), .is (.bool false)] : List VD).getD ix9 (.is undef)) [some 22, some 23, some 24, some 25, some 26, some 27, some 28, some 29, some 30, some 31, some 32, some 33, some 34] (by kernel_rfl) (by kernel_rfl) (by kernel_rfl) rfl (fun ii hii => ?_) ?_
    · match ii, hii with
      | 0, _ => exact mstep_first rfl (mwant_none rfl) 7 (Or.inl rfl) (by kernel_rfl) (fun _ _ => rfl)
      | 1, _ => exact mstep_pure rfl (mwant_none rfl) (fun aa ww cc => ⟨.pointer (some ⟨br, 0, none⟩), by have e0 : aa.tmps.getD 22 undef = .pointer (some ⟨br, 0, none⟩) := cc.slot 0 22 (by kernel_rfl) rfl; simp only [execOp, Act.eval]; go_simp, rfl⟩)
      | 2, _ => exact mstep_pure rfl (mwant_none rfl) (fun aa ww cc => ⟨.pointer (some ⟨br, 3, none⟩), by have e0 : aa.tmps.getD 23 undef = .pointer (some ⟨br, 0, none⟩) := cc.slot 1 23 (by kernel_rfl) rfl; simp only [execOp, Act.eval]; go_simp, rfl⟩)
      | 3, _ => exact mstep_pure rfl (mwant_none rfl) (fun aa ww cc => ⟨.bool false, by have e0 : aa.tmps.getD 24 undef = .pointer (some ⟨br, 3, none⟩) := cc.slot 2 24 (by kernel_rfl) rfl; obtain ⟨q1, q2, q3⟩ := CR.out _ cc.below; simp only [execOp, Act.eval]; go_simp, rfl⟩)
      | 4, _ => exact mstep_copy rfl (mwant_none rfl) 25 (Or.inl rfl) 3 (by kernel_rfl) rfl rfl
      | 5, _ => exact mstep_unwanted rfl 4 true 26 rfl (by kernel_rfl) rfl (Or.inl rfl) (by kernel_rfl) rfl
      | 6, _ => exact mstep_unwanted rfl 4 true 26 rfl (by kernel_rfl) rfl (Or.inl rfl) (by kernel_rfl) rfl
      | 7, _ => exact mstep_unwanted rfl 4 true 26 rfl (by kernel_rfl) rfl (Or.inl rfl) (by kernel_rfl) rfl
      | 8, _ => exact mstep_unwanted rfl 4 true 26 rfl (by kernel_rfl) rfl (Or.inl rfl) (by kernel_rfl) rfl
      | 9, _ => exact mstep_unwanted rfl 4 true 26 rfl (by kernel_rfl) rfl (Or.inl rfl) (by kernel_rfl) rfl
      | 10, _ => exact mstep_unwanted rfl 4 true 26 rfl (by kernel_rfl) rfl (Or.inl rfl) (by kernel_rfl) rfl
      | 11, _ => exact mstep_unwanted rfl 4 true 26 rfl (by kernel_rfl) rfl (Or.inl rfl) (by kernel_rfl) rfl
      | 12, _ => exact mstep_pure rfl (mwant_none rfl) (fun aa ww cc => ⟨.bool false, by have e0 : aa.tmps.getD 26 undef = .bool false := cc.slot 4 26 (by kernel_rfl) rfl; simp only [execOp, Act.eval]; go_simp, rfl⟩)
      | n + 13, h => exact absurd h (by show ¬ (n + 13 < 13); omega)
    · intro VV w5 hlen hb5 hok
      match VV, hlen with
      | [v0, v1, v2, v3, v4, v5, v6, v7, v8, v9, v10, v11, v12], _ =>
        obtain rfl : v0 = .pointer (some ⟨br, 0, none⟩) := hok 0 22 rfl
        obtain rfl : v1 = .pointer (some ⟨br, 0, none⟩) := hok 1 23 rfl
        obtain rfl : v2 = .pointer (some ⟨br, 3, none⟩) := hok 2 24 rfl
        obtain rfl : v3 = .bool false := hok 3 25 rfl
        obtain rfl : v4 = .bool false := hok 4 26 rfl
        obtain rfl : v5 = undef := hok 5 27 rfl
        obtain rfl : v6 = undef := hok 6 28 rfl
        obtain rfl : v7 = undef := hok 7 29 rfl
        obtain rfl : v8 = undef := hok 8 30 rfl
        obtain rfl : v9 = undef := hok 9 31 rfl
        obtain rfl : v10 = undef := hok 10 32 rfl
        obtain rfl : v11 = undef := hok 11 33 rfl
        obtain rfl : v12 = .bool false := hok 12 34 rfl
        have hbb : Below w4.heap.size w4 w5 := ⟨hb5.os, hb5.tape, hb5.output, hb5.size, hb5.block⟩
        have F := FIN.out w5 hbb
        have HGO := Lib.hid (GO.out w5 hbb)
        clear hbb hb5 hok CR FIN GO
        simp only [List.zip_cons_cons, List.zip_nil_right, putsL]
        go_simp
        have HLS : Hid (∀ w', w5.drew.grownBy w' (some br) → Blk w' b5 ss) := Lib.hid fun w' hg => F.out.2.1.drew.grown hg (fun e => HNE.out (by injection e with e; exact e.symm))
        have HJ0 : Hid (w5.drew.grownBy w5.drew (some br) ∧ Blk w5.drew br (St2 bs r A c stg S ss (fun _ => false))) := Lib.hid ⟨World.grownBy.refl _ _, F.out.2.2.2.drew⟩
        go_wp2_with fail
        refine region_vals [.pointer (some ⟨br, 0, none⟩), .pointer (some ⟨br, 0, none⟩), .agg ss.toArray, .pointer (some ⟨br, 0, none⟩), .pointer (some ⟨br, 6, none⟩), undef, .pointer (some ⟨br, 0, none⟩), .pointer (some ⟨br, 7, none⟩), undef] [some 35, some 36, some 37, some 38, some 39, none, some 40, some 41, none] (fun LL ww => w5.drew.grownBy ww (some br) ∧ Blk ww br (St2 bs r A c stg S ss LL)) (by kernel_rfl) (by kernel_rfl) (by kernel_rfl) rfl rfl HJ0.out (fun ii hii => ?_) ?_
        · match ii, hii with
          | 0, _ => exact vstep_first rfl (vwant_none rfl) (fun LL ww hj => by rw [St2_pure (by decide) (by decide)]; exact hj) 7 (Or.inl rfl) (by kernel_rfl) rfl
          | 1, _ => exact vstep_first rfl (vwant_none rfl) (fun LL ww hj => by rw [St2_pure (by decide) (by decide)]; exact hj) 7 (Or.inl rfl) (by kernel_rfl) rfl
          | 2, _ => exact vstep_loadS sStg rfl (vwant_none rfl) (fun LL ww hj => by rw [St2_pure (by decide) (by decide)]; exact hj) 5 rfl b5 ss HSS.out.1 (fun LL aa ww cc => (cc.orig 5 (by kernel_rfl)).trans rfl) (fun LL ww hj => HLS.out ww hj.1) rfl
          | 3, _ => exact vstep_pure rfl (vwant_none rfl) (fun LL ww hj => by rw [St2_pure (by decide) (by decide)]; exact hj) (fun LL aa ww cc => ⟨.pointer (some ⟨br, 0, none⟩), by have e0 : aa.tmps.getD 35 undef = .pointer (some ⟨br, 0, none⟩) := cc.slot 0 35 (by kernel_rfl) rfl; simp only [execOp, Act.eval]; go_simp, rfl⟩)
          | 4, _ => exact vstep_pure rfl (vwant_none rfl) (fun LL ww hj => by rw [St2_pure (by decide) (by decide)]; exact hj) (fun LL aa ww cc => ⟨.pointer (some ⟨br, 6, none⟩), by have e0 : aa.tmps.getD 38 undef = .pointer (some ⟨br, 0, none⟩) := cc.slot 3 38 (by kernel_rfl) rfl; simp only [execOp, Act.eval]; go_simp, rfl⟩)
          | 5, _ => exact vstep_storeB 4 39 (.const (.bool true)) br 6 (.bool true) (by kernel_rfl) rfl rfl (vwant_none rfl) rfl (fun LL aa ww cc => cc.slot 4 39 (by kernel_rfl) rfl) (fun LL aa ww cc => rfl) (fun LL ww hj hf => ⟨_, by rw [St2_len H36.out HSS.out.1]; decide, hj.2, fun w9 hb9 hg9 => ⟨hj.1.trans hg9, by rw [St2_5]; exact hb9⟩⟩) rfl
          | 6, _ => exact vstep_pure rfl (vwant_none rfl) (fun LL ww hj => by rw [St2_pure (by decide) (by decide)]; exact hj) (fun LL aa ww cc => ⟨.pointer (some ⟨br, 0, none⟩), by have e0 : aa.tmps.getD 36 undef = .pointer (some ⟨br, 0, none⟩) := cc.slot 1 36 (by kernel_rfl) rfl; simp only [execOp, Act.eval]; go_simp, rfl⟩)
          | 7, _ => exact vstep_pure rfl (vwant_none rfl) (fun LL ww hj => by rw [St2_pure (by decide) (by decide)]; exact hj) (fun LL aa ww cc => ⟨.pointer (some ⟨br, 7, none⟩), by have e0 : aa.tmps.getD 40 undef = .pointer (some ⟨br, 0, none⟩) := cc.slot 6 40 (by kernel_rfl) rfl; simp only [execOp, Act.eval]; go_simp, rfl⟩)
          | 8, _ => exact vstep_storeMB sStg 41 37 br 7 ss HSS.out.1 HSS.out.2 rfl (vwant_none rfl) rfl (fun LL aa ww cc => cc.slot 7 41 (by kernel_rfl) rfl) (fun LL aa ww cc => cc.slot 2 37 (by kernel_rfl) rfl) (fun LL ww hj hf => ⟨_, by rw [St2_len H36.out HSS.out.1]; decide, hj.2, fun w9 hb9 hg9 => ⟨hj.1.trans hg9, by rw [St2_8 H36.out HSS.out.1]; exact hb9⟩⟩) rfl
          | n + 9, h => exact absurd h (by show ¬ (n + 9 < 9); omega)
        · intro L9 w9 hall hJ
          have HRES := Lib.hid (HGO.out w9 ⟨hJ.1.os, hJ.1.tape, hJ.1.output, hJ.1.size, hJ.1.block⟩ (by
            have := hJ.2
            unfold St2 at this
            rw [hall 5 (by decide), hall 8 (by decide)] at this
            exact this))
          clear hall hJ HJ0 HLS HGO
          simp only [List.zip_cons_cons, List.zip_nil_right, putsL]
          go_simp
          go_wp2_with fail
          go_ret
          exact HRES.out
  | true =>
  clear H H4 HR HB4 HS4 HE4 HRT HB3 HB5 ZS HM35 HC0
  go_wp2_with fail
  refine region_monos (fun ix9 => ([.is (.pointer (some ⟨br, 0, none⟩)), .is (.pointer (some ⟨br, 0, none⟩)), .is (.pointer (some ⟨br, 3, none⟩)), .is (.bool true), .is (.bool true), .is (.pointer (some ⟨b3, 1, none⟩)), .is (.int .u32 (mv : Int)), .is (.pointer (some ⟨br, 0, none⟩)), .is (.pointer (some ⟨br, 0, none⟩)), .is (.pointer (some ⟨br, 5, none⟩)), .is (.int .u32 (vr : Int)), .is (.bool false), .is (.bool false)] : List VD).getD ix9 (.is undef)) [some 22, some 23, some 24, some 25, some 26, some 27, some 28, some 29, some 30, some 31, some 32, some 33, some 34] (by kernel_rfl) (by kernel_rfl) (by kernel_rfl) rfl (fun ii hii => ?_) ?_
  · match ii, hii with
    | 0, _ => exact mstep_first rfl (mwant_none rfl) 7 (Or.inl rfl) (by kernel_rfl) (fun _ _ => rfl)
    | 1, _ => exact mstep_pure rfl (mwant_none rfl) (fun aa ww cc => ⟨.pointer (some ⟨br, 0, none⟩), by have e0 : aa.tmps.getD 22 undef = .pointer (some ⟨br, 0, none⟩) := cc.slot 0 22 (by kernel_rfl) rfl; simp only [execOp, Act.eval]; go_simp, rfl⟩)
    | 2, _ => exact mstep_pure rfl (mwant_none rfl) (fun aa ww cc => ⟨.pointer (some ⟨br, 3, none⟩), by have e0 : aa.tmps.getD 23 undef = .pointer (some ⟨br, 0, none⟩) := cc.slot 1 23 (by kernel_rfl) rfl; simp only [execOp, Act.eval]; go_simp, rfl⟩)
    | 3, _ => exact mstep_pure rfl (mwant_none rfl) (fun aa ww cc => ⟨.bool true, by have e0 : aa.tmps.getD 24 undef = .pointer (some ⟨br, 3, none⟩) := cc.slot 2 24 (by kernel_rfl) rfl; obtain ⟨q1, q2, q3⟩ := CR.out _ cc.below; simp only [execOp, Act.eval]; go_simp, rfl⟩)
    | 4, _ => exact mstep_copy rfl (mwant_none rfl) 25 (Or.inl rfl) 3 (by kernel_rfl) rfl rfl
    | 5, _ => exact mstep_pure rfl (mwant 4 true 26 rfl (by kernel_rfl) rfl rfl (by kernel_rfl)) (fun aa ww cc => ⟨.pointer (some ⟨b3, 1, none⟩), by have e0 : aa.tmps.getD 3 undef = .pointer (some ⟨b3, 0, none⟩) := (cc.orig 3 (by kernel_rfl)).trans rfl; simp only [execOp, Act.eval]; go_simp, rfl⟩)
    | 6, _ => exact mstep_pure rfl (mwant 4 true 26 rfl (by kernel_rfl) rfl rfl (by kernel_rfl)) (fun aa ww cc => ⟨.int .u32 (mv : Int), by have e0 : aa.tmps.getD 27 undef = .pointer (some ⟨b3, 1, none⟩) := cc.slot 5 27 (by kernel_rfl) rfl; obtain ⟨q1, q2, q3⟩ := CR.out _ cc.below; simp only [execOp, Act.eval]; go_simp, rfl⟩)
    | 7, _ => exact mstep_first rfl (mwant 4 true 26 rfl (by kernel_rfl) rfl rfl (by kernel_rfl)) 7 (Or.inl rfl) (by kernel_rfl) (fun _ _ => rfl)
    | 8, _ => exact mstep_pure rfl (mwant 4 true 26 rfl (by kernel_rfl) rfl rfl (by kernel_rfl)) (fun aa ww cc => ⟨.pointer (some ⟨br, 0, none⟩), by have e0 : aa.tmps.getD 29 undef = .pointer (some ⟨br, 0, none⟩) := cc.slot 7 29 (by kernel_rfl) rfl; simp only [execOp, Act.eval]; go_simp, rfl⟩)
    | 9, _ => exact mstep_pure rfl (mwant 4 true 26 rfl (by kernel_rfl) rfl rfl (by kernel_rfl)) (fun aa ww cc => ⟨.pointer (some ⟨br, 5, none⟩), by have e0 : aa.tmps.getD 30 undef = .pointer (some ⟨br, 0, none⟩) := cc.slot 8 30 (by kernel_rfl) rfl; simp only [execOp, Act.eval]; go_simp, rfl⟩)
    | 10, _ => exact mstep_pure rfl (mwant 4 true 26 rfl (by kernel_rfl) rfl rfl (by kernel_rfl)) (fun aa ww cc => ⟨.int .u32 (vr : Int), by have e0 : aa.tmps.getD 31 undef = .pointer (some ⟨br, 5, none⟩) := cc.slot 9 31 (by kernel_rfl) rfl; obtain ⟨q1, q2, q3⟩ := CR.out _ cc.below; simp only [execOp, Act.eval]; go_simp, rfl⟩)
    | 11, _ => exact mstep_pure rfl (mwant 4 true 26 rfl (by kernel_rfl) rfl rfl (by kernel_rfl)) (fun aa ww cc => ⟨.bool false, by have e0 : aa.tmps.getD 28 undef = .int .u32 (mv : Int) := cc.slot 6 28 (by kernel_rfl) rfl; have e1 : aa.tmps.getD 32 undef = .int .u32 (vr : Int) := cc.slot 10 32 (by kernel_rfl) rfl; have q := HLE.out (by trivial); simp only [execOp, Act.eval]; go_simp, rfl⟩)
    | 12, _ => exact mstep_pure rfl (mwant_none rfl) (fun aa ww cc => ⟨.bool false, by have e0 : aa.tmps.getD 26 undef = .bool true := cc.slot 4 26 (by kernel_rfl) rfl; have e1 : aa.tmps.getD 33 undef = .bool false := cc.slot 11 33 (by kernel_rfl) rfl; simp only [execOp, Act.eval]; go_simp, rfl⟩)
    | n + 13, h => exact absurd h (by show ¬ (n + 13 < 13); omega)
  · intro VV w5 hlen hb5 hok
    match VV, hlen with
    | [v0, v1, v2, v3, v4, v5, v6, v7, v8, v9, v10, v11, v12], _ =>
      obtain rfl : v0 = .pointer (some ⟨br, 0, none⟩) := hok 0 22 rfl
      obtain rfl : v1 = .pointer (some ⟨br, 0, none⟩) := hok 1 23 rfl
      obtain rfl : v2 = .pointer (some ⟨br, 3, none⟩) := hok 2 24 rfl
      obtain rfl : v3 = .bool true := hok 3 25 rfl
      obtain rfl : v4 = .bool true := hok 4 26 rfl
      obtain rfl : v5 = .pointer (some ⟨b3, 1, none⟩) := hok 5 27 rfl
      obtain rfl : v6 = .int .u32 (mv : Int) := hok 6 28 rfl
      obtain rfl : v7 = .pointer (some ⟨br, 0, none⟩) := hok 7 29 rfl
      obtain rfl : v8 = .pointer (some ⟨br, 0, none⟩) := hok 8 30 rfl
      obtain rfl : v9 = .pointer (some ⟨br, 5, none⟩) := hok 9 31 rfl
      obtain rfl : v10 = .int .u32 (vr : Int) := hok 10 32 rfl
      obtain rfl : v11 = .bool false := hok 11 33 rfl
      obtain rfl : v12 = .bool false := hok 12 34 rfl
      have hbb : Below w4.heap.size w4 w5 := ⟨hb5.os, hb5.tape, hb5.output, hb5.size, hb5.block⟩
      have F := FIN.out w5 hbb
      have HGO := Lib.hid (GO.out w5 hbb)
      clear hbb hb5 hok CR FIN GO HLE
      simp only [List.zip_cons_cons, List.zip_nil_right, putsL]
      go_simp
      have HLS : Hid (∀ w', w5.drew.grownBy w' (some br) → Blk w' b5 ss) := Lib.hid fun w' hg => F.out.2.1.drew.grown hg (fun e => HNE.out (by injection e with e; exact e.symm))
      have HJ0 : Hid (w5.drew.grownBy w5.drew (some br) ∧ Blk w5.drew br (St2 bs r A c stg S ss (fun _ => false))) := Lib.hid ⟨World.grownBy.refl _ _, F.out.2.2.2.drew⟩
      go_wp2_with fail
      refine region_vals [.pointer (some ⟨br, 0, none⟩), .pointer (some ⟨br, 0, none⟩), .agg ss.toArray, .pointer (some ⟨br, 0, none⟩), .pointer (some ⟨br, 6, none⟩), undef, .pointer (some ⟨br, 0, none⟩), .pointer (some ⟨br, 7, none⟩), undef] [some 35, some 36, some 37, some 38, some 39, none, some 40, some 41, none] (fun LL ww => w5.drew.grownBy ww (some br) ∧ Blk ww br (St2 bs r A c stg S ss LL)) (by kernel_rfl) (by kernel_rfl) (by kernel_rfl) rfl rfl HJ0.out (fun ii hii => ?_) ?_
      · match ii, hii with
        | 0, _ => exact vstep_first rfl (vwant_none rfl) (fun LL ww hj => by rw [St2_pure (by decide) (by decide)]; exact hj) 7 (Or.inl rfl) (by kernel_rfl) rfl
        | 1, _ => exact vstep_first rfl (vwant_none rfl) (fun LL ww hj => by rw [St2_pure (by decide) (by decide)]; exact hj) 7 (Or.inl rfl) (by kernel_rfl) rfl
        | 2, _ => exact vstep_loadS sStg rfl (vwant_none rfl) (fun LL ww hj => by rw [St2_pure (by decide) (by decide)]; exact hj) 5 rfl b5 ss HSS.out.1 (fun LL aa ww cc => (cc.orig 5 (by kernel_rfl)).trans rfl) (fun LL ww hj => HLS.out ww hj.1) rfl
        | 3, _ => exact vstep_pure rfl (vwant_none rfl) (fun LL ww hj => by rw [St2_pure (by decide) (by decide)]; exact hj) (fun LL aa ww cc => ⟨.pointer (some ⟨br, 0, none⟩), by have e0 : aa.tmps.getD 35 undef = .pointer (some ⟨br, 0, none⟩) := cc.slot 0 35 (by kernel_rfl) rfl; simp only [execOp, Act.eval]; go_simp, rfl⟩)
        | 4, _ => exact vstep_pure rfl (vwant_none rfl) (fun LL ww hj => by rw [St2_pure (by decide) (by decide)]; exact hj) (fun LL aa ww cc => ⟨.pointer (some ⟨br, 6, none⟩), by have e0 : aa.tmps.getD 38 undef = .pointer (some ⟨br, 0, none⟩) := cc.slot 3 38 (by kernel_rfl) rfl; simp only [execOp, Act.eval]; go_simp, rfl⟩)
        | 5, _ => exact vstep_storeB 4 39 (.const (.bool true)) br 6 (.bool true) (by kernel_rfl) rfl rfl (vwant_none rfl) rfl (fun LL aa ww cc => cc.slot 4 39 (by kernel_rfl) rfl) (fun LL aa ww cc => rfl) (fun LL ww hj hf => ⟨_, by rw [St2_len H36.out HSS.out.1]; decide, hj.2, fun w9 hb9 hg9 => ⟨hj.1.trans hg9, by rw [St2_5]; exact hb9⟩⟩) rfl
        | 6, _ => exact vstep_pure rfl (vwant_none rfl) (fun LL ww hj => by rw [St2_pure (by decide) (by decide)]; exact hj) (fun LL aa ww cc => ⟨.pointer (some ⟨br, 0, none⟩), by have e0 : aa.tmps.getD 36 undef = .pointer (some ⟨br, 0, none⟩) := cc.slot 1 36 (by kernel_rfl) rfl; simp only [execOp, Act.eval]; go_simp, rfl⟩)
        | 7, _ => exact vstep_pure rfl (vwant_none rfl) (fun LL ww hj => by rw [St2_pure (by decide) (by decide)]; exact hj) (fun LL aa ww cc => ⟨.pointer (some ⟨br, 7, none⟩), by have e0 : aa.tmps.getD 40 undef = .pointer (some ⟨br, 0, none⟩) := cc.slot 6 40 (by kernel_rfl) rfl; simp only [execOp, Act.eval]; go_simp, rfl⟩)
        | 8, _ => exact vstep_storeMB sStg 41 37 br 7 ss HSS.out.1 HSS.out.2 rfl (vwant_none rfl) rfl (fun LL aa ww cc => cc.slot 7 41 (by kernel_rfl) rfl) (fun LL aa ww cc => cc.slot 2 37 (by kernel_rfl) rfl) (fun LL ww hj hf => ⟨_, by rw [St2_len H36.out HSS.out.1]; decide, hj.2, fun w9 hb9 hg9 => ⟨hj.1.trans hg9, by rw [St2_8 H36.out HSS.out.1]; exact hb9⟩⟩) rfl
        | n + 9, h => exact absurd h (by show ¬ (n + 9 < 9); omega)
      · intro L9 w9 hall hJ
        have HRES := Lib.hid (HGO.out w9 ⟨hJ.1.os, hJ.1.tape, hJ.1.output, hJ.1.size, hJ.1.block⟩ (by
          have := hJ.2
          unfold St2 at this
          rw [hall 5 (by decide), hall 8 (by decide)] at this
          exact this))
        clear hall hJ HJ0 HLS HGO
        simp only [List.zip_cons_cons, List.zip_nil_right, putsL]
        go_simp
        go_wp2_with fail
        go_ret
        exact HRES.out
end
/- loader: Begin of no manifest, Chunk. -/
section
variable (w : World) {B bl br bg bs bq ce bd n : Nat} {Ae : Option Addr} {r : Reg} {stg : Bool} {S : List Value}
set_option maxRecDepth 100000 in
set_option maxHeartbeats 8000000 in
theorem lbegin_bad (v0 : Value) (m : Man) (h32 : m.sum.length = 32) (hok : m.okB = false) :
    Calls Tryz.prog 10 #[v0, .agg (mcells m).toArray] w (fun e w' => e = .returned (.int .i64 1) ∧ Below w.heap.size w w') := by
  have HM35 : Hid ((mcells m).length = 35) := Lib.hid (mcells_len m h32)
  obtain ⟨ms, hms⟩ : ∃ ms, ms = mcells m := ⟨_, rfl⟩
  obtain ⟨zs, hzs⟩ : ∃ zs, zs = scells zMan none 0 0 := ⟨_, rfl⟩
  have ZS : Hid (((Tryz.prog.info? 87).bind (·.zero)) = some (.agg zs.toArray) ∧ zs.length = 36 ∧ ∀ v ∈ zs, v.oneCell' = true) := Lib.hid ⟨by rw [hzs]; exact zeroStg, by rw [hzs]; exact scells_len zMan rfl _ _ _, by rw [hzs]; exact scells_one _ _ _ _⟩
  have HIB : Hid (∀ w, Calls Tryz.prog 35 #[.agg ms.toArray] w (fun e w' => e = .returned (.tuple #[.agg zs.toArray, .int .i64 1]) ∧ Below w.heap.size w w')) := Lib.hid fun w => by
    rw [hms, hzs]
    refine (ibegin_calls w m h32).mono ?_
    rintro e w' ⟨rfl, hb⟩
    rw [hok]
    exact ⟨rfl, hb⟩
  rw [← hms]
  rw [← hms] at HM35
  clear hms hzs h32 hok
  go_enter Tryz.func10, Tryz.ntmps10
  go_wp2_with (((with_reducible show wpList _ _ _ (Oper.mk _ (Op.box 47 _) _ _ _ _ :: _) _ _); refine wpList_boxS rfl _ rfl ms (by rfl) ?_))
  intro w1 hb1 hg1 hs1
  obtain ⟨b3, hB3⟩ : ∃ b3, b3 = w.heap.size := ⟨_, rfl⟩
  have HB3 := Lib.hid hB3
  rw [← hB3] at hb1 ⊢
  have HB1 := Lib.hid hb1
  have HE1 : Hid (Below w.heap.size w w1) := Lib.hid (gbelow hg1)
  clear hb1 hg1 hs1 hB3
  go_wp2_with (((with_reducible show wpList _ _ _ (Oper.mk (some 9) (Op.load 47 _) _ _ _ _ :: _) _ _); refine wpList_loadS sMan rfl _ rfl b3 ms rfl HB1.out HM35.out ?_))
  go_at_call 35
  with_reducible refine (HIB.out w1).mono ?_
  rintro e w2 ⟨rfl, hb2⟩
  have HE2 : Hid (Below w.heap.size w w2) := Lib.hid (HE1.out.trans (hb2.mono HE1.out.size))
  clear hb2 HE1 HIB
  go_wp2_with (((with_reducible show wpList _ _ _ (Oper.mk (some 5) (Op.alloc 87) _ _ _ _ :: _) _ _); refine wpList_allocS _ ZS.out.1 rfl rfl ?_))
  intro w3 hb3 hg3 hs3
  obtain ⟨b5, hB5⟩ : ∃ b5, b5 = w2.heap.size := ⟨_, rfl⟩
  have HB5 := Lib.hid hB5
  rw [← hB5] at hb3 ⊢
  have HZ3 := Lib.hid hb3
  have HE3 : Hid (Below w.heap.size w w3) := Lib.hid (HE2.out.trans ((gbelow hg3).mono HE2.out.size))
  clear hb3 hg3 hs3 hB5
  go_wp2_with (((with_reducible show wpList _ _ _ (Oper.mk _ (Op.store 87 _ _) _ _ _ _ :: _) _ _); refine wpList_storeS sStg rfl _ _ rfl b5 _ zs rfl rfl HZ3.out ZS.out.2.1 ZS.out.2.1 ZS.out.2.2 ?_))
  intro w4 hb4 hg4
  have HE4 : Hid (Below w.heap.size w w4) := Lib.hid (HE3.out.grown hg4 HE3.out.size (fun j e => by injection e with e; have := HE2.out.size; have := HB5.out; omega))
  clear hb4 hg4 HE3 HZ3
  go_wp2_with fail
  go_ret
  exact ⟨rfl, HE4.out⟩
def RetLc (w : World) (B bl br bg bs bq : Nat) (Ae : Option Addr) (ce bd : Nat) (r : Reg) (m : Man) (n : Nat) (l : List UInt8) (e : Ending) (w' : World) : Prop := ∃ g, e = .returned (.int .i64 0) ∧ LdM w' B bl br bg bs bq Ae ce bd r true (scells m (some ⟨g, 0, none⟩) l.length l.length) n ∧ w.heap.size ≤ g ∧ RB w' w'.heap.size (some ⟨g, 0, none⟩) l ∧ w.grownBy w' (some br) ∧ K4 w w' br
set_option maxRecDepth 100000 in
set_option maxHeartbeats 8000000 in
theorem lchunk_calls (m : Man) (sz : Nat) (h32 : m.sum.length = 32) (hok : m.okB = true) (hsz : m.size = (sz : Int)) (A0 A1 : Option Addr) (n0 c0 n1 c1 : Nat) (l0 l1 : List UInt8) (e0 : n0 = l0.length) (e1 : n1 = l1.length)
    (r0 : RB w w.heap.size A0 l0) (r1 : RB w w.heap.size A1 l1) (hle : n0 + n1 ≤ sz) (hs : sz ≤ 1000000) (h : LdM w B bl br bg bs bq Ae ce bd r true (scells m A0 n0 c0) n) :
    Calls Tryz.prog 11 #[.pointer (some ⟨bl, 0, none⟩), .int .i64 0, .int .i64 (n0 : Int), .slice A1 n1 c1] w (RetLc w B bl br bg bs bq Ae ce bd r m n (l0 ++ l1)) := by
  have H := Lib.hid h
  have HCH := Lib.hid (ichunk_calls w m sz h32 hok hsz A0 A1 n0 c0 n1 c1 l0 l1 e0 e1 r0 r1 hle hs)
  obtain ⟨L, hL⟩ : ∃ L, L = l0 ++ l1 := ⟨_, rfl⟩
  rw [← hL] at HCH ⊢
  obtain ⟨A, c, hR⟩ := h.regS _ (scells_len m h32 _ _ _)
  have HR := Lib.hid hR
  obtain ⟨ss, hss⟩ : ∃ ss, ss = scells m A0 n0 c0 := ⟨_, rfl⟩
  have HS36 : Hid (ss.length = 36) := Lib.hid (by rw [hss]; exact scells_len m h32 _ _ _)
  have HN : Hid (∀ g, (scells m (some ⟨g, 0, none⟩) L.length L.length).length = 36 ∧ ∀ v ∈ scells m (some ⟨g, 0, none⟩) L.length L.length, v.oneCell' = true) := Lib.hid fun g => ⟨scells_len m h32 _ _ _, scells_one _ _ _ _⟩
  rw [← hss] at HCH hR
  have HRR : Hid (Blk w br (rcells bs r.gen r.bank r.img.isSome A (imgB r.img).length c (imgV r.img) true ss)) := Lib.hid hR.1
  have HRC : Hid (∃ cs, cs = rcells bs r.gen r.bank r.img.isSome A (imgB r.img).length c (imgV r.img) true ss ∧ Blk w br cs ∧ cs.length = 43 ∧ cs.drop 7 = ss ∧ ∀ zs : List Value, zs.length = 36 → cs.take 7 ++ zs ++ cs.drop (7 + zs.length) = rcells bs r.gen r.bank r.img.isSome A (imgB r.img).length c (imgV r.img) true zs) := Lib.hid ⟨_, rfl, hR.1, by show _ + 7 = _; rw [HS36.out], rfl, fun zs hz => by
    have e : (rcells bs r.gen r.bank r.img.isSome A (imgB r.img).length c (imgV r.img) true ss).drop (7 + zs.length) = [] := List.drop_of_length_le (by show _ + 7 ≤ _; rw [HS36.out, hz]; decide)
    rw [e, List.append_nil]
    rfl⟩
  have k6 : w.cell? ⟨br, 6, none⟩ = some (.bool true) := hR.1.cell rfl
  have HRX := Lib.hid hR.1
  have HRG := Lib.hid (lregion_calls w h)
  obtain ⟨cs, hcs⟩ := HRC.out
  have HCS := Lib.hid hcs
  have ZS : Hid (((Tryz.prog.info? 87).bind (·.zero)) = some (.agg (scells zMan none 0 0).toArray)) := Lib.hid zeroStg
  obtain ⟨zs, hzs⟩ : ∃ zs, zs = scells zMan none 0 0 := ⟨_, rfl⟩
  rw [← hzs] at ZS
  have HZL : Hid (zs.length = 36) := Lib.hid (by rw [hzs]; exact scells_len zMan rfl _ _ _)
  have HMC : Hid (w.rangeAt br 7 ss) := Lib.hid (hcs.2.1.range 7 ss ⟨cs.take 7, [], by rw [List.append_nil, ← hcs.2.2.2.1, List.take_append_drop], by rw [List.length_take, hcs.2.2.1]; rfl⟩)
  clear h h32 hok hsz e0 e1 r0 r1 hle hs hL hR hss hcs hzs HRC HRR
  go_enter Tryz.func11, Tryz.ntmps11
  go_wp2_with fail
  go_at_call 36
  with_reducible refine HRG.out.mono ?_
  rintro e w0 ⟨rfl, rfl⟩
  clear HRG
  go_wp2_with (((with_reducible show wpList _ _ _ (Oper.mk (some 28) (Op.load 87 _) _ _ _ _ :: _) _ _); refine wpList_loadM sStg rfl _ rfl br 7 ss rfl HMC.out HS36.out ?_))
  go_at_call 37
  with_reducible refine HCH.out.mono ?_
  rintro e w2 ⟨g, rfl, hgB, hgr, hb2⟩
  obtain ⟨ns, hns⟩ : ∃ ns, ns = scells m (some ⟨g, 0, none⟩) L.length L.length := ⟨_, rfl⟩
  have HNS : Hid (ns = scells m (some ⟨g, 0, none⟩) L.length L.length ∧ ns.length = 36 ∧ ∀ v ∈ ns, v.oneCell' = true) := Lib.hid ⟨hns, by rw [hns]; exact HN.out g⟩
  rw [← hns]
  have HG2 := Lib.hid (And.intro hgB hgr)
  have HE2 := Lib.hid hb2
  clear hgB hgr hb2 HCH HMC k6 HN hns
  go_wp2_with (((with_reducible show wpList _ _ _ (Oper.mk (some 10) (Op.alloc 87) _ _ _ _ :: _) _ _); refine wpList_allocS _ ZS.out rfl rfl ?_))
  intro w3 hb3 hg3 hs3
  obtain ⟨b5, hB5⟩ : ∃ b5, b5 = w2.heap.size := ⟨_, rfl⟩
  have HB5 := Lib.hid hB5
  rw [← hB5] at hb3 ⊢
  have HZ3 := Lib.hid hb3
  have HG3 : Hid (RB w3 w3.heap.size (some ⟨g, 0, none⟩) L) := Lib.hid ((HG2.out.2.below (gbelow hg3)).mono hg3.size)
  have HE3 : Hid (Below w0.heap.size w0 w3) := Lib.hid (HE2.out.trans ((gbelow hg3).mono HE2.out.size))
  clear hb3 hg3 hs3 hB5
  go_wp2_with (((with_reducible show wpList _ _ _ (Oper.mk _ (Op.store 87 _ _) _ _ _ _ :: _) _ _); refine wpList_storeS sStg rfl _ _ rfl b5 _ ns rfl rfl HZ3.out HZL.out HNS.out.2.1 HNS.out.2.2 ?_))
  intro w4 hb4 hg4
  have HS4 := Lib.hid hb4
  have HG4 : Hid (RB w4 w4.heap.size (some ⟨g, 0, none⟩) L) := Lib.hid (fun hne => rb_kept HG3.out hg4 (fun g' hg' => by
    injection hg' with hg'
    obtain ⟨g2, o, hA, hl, _⟩ := HG2.out.2 hne
    injection hA with hA
    injection hA with e1 e2
    have e1 : g = g2 := e1
    have hg' : g = g' := hg'
    have := HB5.out
    omega) hne)
  have HE4 : Hid (Below w0.heap.size w0 w4) := Lib.hid (HE3.out.grown hg4 HE3.out.size (fun j e => by injection e with e; have := HE2.out.size; have := HB5.out; omega))
  have HC4 : Hid (Blk w4 br cs) := Lib.hid (HCS.out.2.1.below HE4.out H.out.lt.2.1)
  clear hb4 hg4 HE3 HZ3
  go_wp2_with (first | ((with_reducible show wpList _ _ _ (Oper.mk (some 38) (Op.load 87 _) _ _ _ _ :: _) _ _); refine wpList_loadS sStg rfl _ rfl b5 ns rfl HS4.out HNS.out.2.1 ?_) | ((with_reducible show wpList _ _ _ (Oper.mk _ (Op.store 87 _ _) _ _ _ _ :: _) _ _); refine wpList_storeM sStg rfl _ _ rfl br 7 _ ns rfl rfl HC4.out (by rw [HCS.out.2.2.1]; decide) HNS.out.2.1 HNS.out.2.2 ?_))
  intro w5 hb5 hg5
  have HRES : Hid (RetLc w0 B bl br bg bs bq Ae ce bd r m n L (.returned (.int .i64 0)) w5) := Lib.hid (by
    have hb := hb5
    rw [← List.append_assoc, HCS.out.2.2.2.2 ns HNS.out.2.1] at hb
    have hR := HR.out
    have hl := (H.out.below HE4.out).sto hg5 hb (regc_close hR.2.1 (rb_kept ((hR.2.2.1.below HE4.out).mono HE4.out.size) hg5 fun g hg' => (hR.2.2.2.1 g hg').2) hR.2.2.2.1 hR.2.2.2.2)
    rw [HNS.out.1] at hl
    refine ⟨g, rfl, hl, HG2.out.1, rb_kept HG4.out hg5 (fun g' hg' => by injection hg' with hg'; have hg' : g = g' := hg'; have := HG2.out.1; have := H.out.lt.2.1; omega), (Only.below HE4.out).trans hg5, fun v hv => ?_⟩
    have h2 := (HRX.out).cell (j := 4) rfl
    rw [hv] at h2
    rw [h2]
    exact hb.cell rfl)
  clear hb5 hg5
  go_wp2_with fail
  go_ret
  exact HRES.out
end
end Go.Proofs.YtjfpoahmjgeogaaGreatDoor
/- loader: region.install. -/
namespace Nac.Img
theorem inst_out (r : Reg) (d : Dk) (m : Man) (b : List UInt8) : (instF r d m b).2 =
    (let W := d.writes (wsFrom (bankAtF (1 - r.bank)) (bankF (r.gen + 1) m b)); if W.2 = 0 then (if W.1.flush.2 = 0 then (let V := W.1.flush.1.write ((r.gen + 1) % 2) (headSec (r.gen + 1) (1 - r.bank)); if V.2 = 0 then V.1.flush else V) else W.1.flush) else W) := by
  unfold instF
  simp only [put_one]
  unfold Dk.put
  obtain ⟨W, hW⟩ : ∃ W, W = d.writes (wsFrom (bankAtF (1 - r.bank)) (bankF (r.gen + 1) m b)) := ⟨_, rfl⟩
  rw [← hW]
  obtain ⟨W1, W2⟩ := W
  by_cases h1 : W2 = 0
  · simp only [h1, if_true]
    obtain ⟨F, hF⟩ : ∃ F, F = W1.flush := ⟨_, rfl⟩
    rw [← hF]
    obtain ⟨F1, F2⟩ := F
    by_cases h2 : F2 = 0
    · obtain ⟨V, hV⟩ : ∃ V, V = F1.write ((r.gen + 1) % 2) (headSec (r.gen + 1) (1 - r.bank)) := ⟨_, rfl⟩
      obtain ⟨V1, V2⟩ := V
      simp only [h2, ← hV]
      by_cases h3 : V2 = 0
      · obtain ⟨E, hE⟩ : ∃ E, E = V1.flush := ⟨_, rfl⟩
        obtain ⟨E1, E2⟩ := E
        by_cases h4 : E2 = 0 <;> simp [h3, ← hE, h4]
      · simp [h3]
    · simp [h2]
  · simp [h1]
theorem datas_64 (g : Nat) : ∀ (l : List (List UInt8)) (k : Nat), ∀ x ∈ datasF g k l, x.length = 64
  | [], _, _, h => by cases h
  | p :: l, k, x, h => by
    rcases List.mem_cons.1 h with rfl | h
    · exact secB_len _ _ _
    · exact datas_64 g l (k + 1) x h
theorem bank_64 (g : Nat) (m : Man) (b : List UInt8) : ∀ x ∈ bankF g m b, x.length = 64 := fun x h => by
  rcases List.mem_cons.1 h with rfl | h
  · exact secB_len _ _ _
  · exact datas_64 _ _ _ x h
theorem ws_drop (a : Nat) (L : List (List UInt8)) (i : Nat) (S : List UInt8) (h : L[i]? = some S) : wsFrom (a + i) (L.drop i) = (a + i, S) :: wsFrom (a + (i + 1)) (L.drop (i + 1)) := by
  obtain ⟨hi, hS⟩ := List.getElem?_eq_some_iff.1 h
  rw [List.drop_eq_getElem_cons hi, hS]
  rfl
end Nac.Img
namespace Go.Proofs.YtjfpoahmjgeogaaGreatDoor
open Go.RowKit Nac Nac.Img Nac.Sha Nac.Crc
def RetIns (w : World) (bd : Nat) (O : Nat → Prop) (br : Nat) (r : Dk × Nat) (e : Ending) (w' : World) : Prop := e = .returned (.int .i64 (r.2 : Int)) ∧ ∃ O', DkM w' bd O' r.1 ∧ Upd (fun k => O k ∨ k = br) w w' O'
def WrS (w2 : World) (bd : Nat) (O : Nat → Prop) (d : Dk) (a0 : Nat) (L : List (List UInt8)) (s : Value) (wi : World) : Prop := ∃ (i : Nat) (Oi : Nat → Prop) (di : Dk), i ≤ L.length ∧ s = .int .i64 (i : Int) ∧ d.writes (wsFrom a0 L) = di.writes (wsFrom (a0 + i) (L.drop i)) ∧ DkM wi bd Oi di ∧ Upd O w2 wi Oi ∧ di.pend.length ≤ i ∧ di.surv.length ≤ d.surv.length
set_option maxRecDepth 100000 in
set_option maxHeartbeats 16000000 in
theorem rinstall_calls (w : World) (hG : Gl w) (br bs bd : Nat) (r : Reg) (has : Bool) (A : Option Addr) (na c va : Nat) (stg : Bool) (S : List Value) (hb : Blk w br (rcells bs r.gen r.bank has A na c va stg S)) (h36 : S.length = 36) (hp : PartM w bs bd 0 24) (O : Nat → Prop) (d : Dk) (hd : DkM w bd O d)
    (hpd : d.pend = []) (hsv : d.surv.length ≤ 140737488351232) (o1 : ¬ O br) (o2 : ¬ O bs) (o5 : ∀ k, O k → 5 ≤ k) (hg : r.gen + 1 < 4294967296) (hbk : r.bank < 2) (m : Man) (h32 : m.sum.length = 32) (hok : m.okB = true) (hv : m.ver < 4294967296) (A0 : Option Addr) (n0 c0 : Nat) (b : List UInt8) (hn : n0 = b.length) (hA : RB w w.heap.size A0 b) (hc : n0 ≤ c0) (hl : n0 ≤ 512) :
    Calls Tryz.prog 43 #[.pointer (some ⟨br, 0, none⟩), .agg (scells m A0 n0 c0).toArray] w (RetIns w bd O br (instF r d m b).2) := by
  have HG := Lib.hid hG
  have HB := Lib.hid hb
  have HP := Lib.hid hp
  have HD := Lib.hid (And.intro hd (And.intro hpd hsv))
  have HO := Lib.hid (And.intro o1 o2)
  have HO5 := Lib.hid o5
  obtain ⟨g1, hg1⟩ : ∃ x, x = r.gen + 1 := ⟨_, rfl⟩
  obtain ⟨nk, hnk⟩ : ∃ x, x = 1 - r.bank := ⟨_, rfl⟩
  obtain ⟨L, hL⟩ : ∃ L, L = bankF g1 m b := ⟨_, rfl⟩
  obtain ⟨a0, ha0⟩ : ∃ x, x = bankAtF nk := ⟨_, rfl⟩
  obtain ⟨HS, hHS⟩ : ∃ x, x = headSec g1 nk := ⟨_, rfl⟩
  obtain ⟨y, hy⟩ : ∃ x, x = g1 % 2 := ⟨_, rfl⟩
  obtain ⟨res, hres⟩ : ∃ x, x = (instF r d m b).2 := ⟨_, rfl⟩
  have HR : Hid (res = (let W := d.writes (wsFrom a0 L); if W.2 = 0 then (if W.1.flush.2 = 0 then (let V := W.1.flush.1.write y HS; if V.2 = 0 then V.1.flush else V) else W.1.flush) else W)) := Lib.hid (by rw [hres, inst_out, hy, hHS, ha0, hL, hnk, hg1])
  have HL : Hid (L.length ≤ 11 ∧ 0 < L.length ∧ ∀ x ∈ L, x.length = 64) := Lib.hid (by rw [hL]; exact ⟨bank_len (by omega), by unfold bankF; simp, bank_64 _ _ _⟩)
  have HA0 : Hid (a0 + 11 ≤ 24 ∧ nk < 2 ∧ y < 2) := Lib.hid ⟨by rw [ha0]; unfold bankAtF; omega, by omega, by omega⟩
  have HSL : Hid (HS.length = 64) := Lib.hid (by rw [hHS]; exact secB_len _ _ _)
  have QG : Hid ((r.gen : Int) + 1 = (g1 : Int) ∧ IntKind.u32.wrap (g1 : Int) = (g1 : Int) ∧ (g1 : Int) % 4294967296 = (g1 : Int)) := Lib.hid ⟨by omega, by rw [IntKind.wrap_u32]; omega, by omega⟩
  have QK : Hid (1 - (r.bank : Int) = (nk : Int) ∧ IntKind.i64.wrap (nk : Int) = (nk : Int)) := Lib.hid ⟨by omega, by rw [Go.IntWalk.i64_left]; unfold wrap64; omega⟩
  have HYG : Hid ((g1 : Int) % 2 = (y : Int)) := Lib.hid (by omega)
  have HLB : Hid (br < w.heap.size) := Lib.hid hb.lt
  obtain ⟨ss, hss⟩ : ∃ ss, ss = scells m A0 n0 c0 := ⟨_, rfl⟩
  obtain ⟨ms, hms⟩ : ∃ ms, ms = mcells m := ⟨_, rfl⟩
  have HSS : Hid (ss.length = 36 ∧ ss = ms ++ [.slice A0 n0 c0] ∧ ms.length = 35 ∧ ss[35]? = some (.slice A0 n0 c0)) := Lib.hid ⟨by rw [hss]; exact scells_len m h32 _ _ _, by rw [hss, hms]; rfl, by rw [hms]; exact mcells_len m h32, by rw [hss]; exact scells_got m h32 _ _ _⟩
  have HBK : Hid (∀ w1, Below w.heap.size w w1 → Calls Tryz.prog 64 #[.int .u32 (g1 : Int), .agg ms.toArray, .slice A0 n0 c0] w1 (RetBk w1 L)) := Lib.hid fun w1 hb => by
    rw [hms, hL]
    exact bank_calls w1 (hG.below' hb) g1 m (by omega) h32 hok hv A0 n0 c0 b hn ((hA.below hb).mono hb.size) hc (by omega)
  have HHS : Hid (∀ w1, Gl w1 → Calls Tryz.prog 67 #[.int .u32 (g1 : Int), .int .i64 (nk : Int)] w1 (RetPut w1 HS)) := Lib.hid fun w1 hG1 => by
    rw [hHS]
    exact headSec_calls w1 hG1 g1 nk (by omega) (by omega)
  have HBA : Hid (∀ w1, Calls Tryz.prog 53 #[.int .i64 (nk : Int)] w1 (fun e w' => ∃ u, e = .returned u ∧ (VD.is (.int .i64 (a0 : Int))).ok u w' ∧ Below w1.heap.size w1 w')) := Lib.hid fun w1 => by
    rw [ha0]
    refine (bankAt_calls w1 nk (by omega)).mono ?_
    rintro e w' ⟨rfl, rfl⟩
    exact ⟨_, rfl, rfl, Below.refl _ _⟩
  obtain ⟨g0, hg0⟩ : ∃ x, x = r.gen := ⟨_, rfl⟩
  obtain ⟨bk, hbk'⟩ : ∃ x, x = r.bank := ⟨_, rfl⟩
  obtain ⟨RC, hRC⟩ : ∃ x, x = rcells bs r.gen r.bank has A na c va stg S := ⟨_, rfl⟩
  have HRC : Hid (RC.length = 43 ∧ RC[0]? = some (.pointer (some ⟨bs, 0, none⟩)) ∧ RC[1]? = some (.int .u32 (g0 : Int)) ∧ RC[2]? = some (.int .i64 (bk : Int))) := Lib.hid (by rw [hRC, hg0, hbk']; exact ⟨by show _ + 7 = _; rw [h36], rfl, rfl, rfl⟩)
  have HV : Hid (ms[1]? = some (.int .u32 (m.ver : Int))) := Lib.hid (by rw [hms]; rfl)
  rw [← hss, ← hres]
  rw [← hRC] at HB
  rw [← hg0] at QG
  rw [← hbk'] at QK
  obtain ⟨mv, hmv⟩ : ∃ x, x = m.ver := ⟨_, rfl⟩
  rw [← hmv] at HV
  clear hG hb h36 hp hd hpd hsv o1 o2 o5 hg hbk h32 hok hv hn hA hc hl hg1 hnk hL ha0 hHS hy hres hss hms hg0 hbk' hRC hmv
  go_enter Tryz.func43, Tryz.ntmps43
  go_wp2_with (((with_reducible show wpList _ _ _ (Oper.mk _ (Op.box 87 _) _ _ _ _ :: _) _ _); refine wpList_boxS rfl _ rfl ss (by rfl) ?_))
  intro w1 hb1 hgr1 hs1
  obtain ⟨b3, hB3⟩ : ∃ b3, b3 = w.heap.size := ⟨_, rfl⟩
  have HB3 := Lib.hid hB3
  rw [← hB3] at hb1 ⊢
  have HK1 := Lib.hid hb1
  have HE1 : Hid (Below w.heap.size w w1) := Lib.hid (gbelow hgr1)
  clear hb1 hgr1 hs1 hB3
  have CR : Hid (∀ w', Below w1.drew.heap.size w1.drew w' → w'.cell? ⟨br, 1, none⟩ = some (.int .u32 (g0 : Int)) ∧ w'.cell? ⟨br, 2, none⟩ = some (.int .i64 (bk : Int))) := Lib.hid fun w' hb => by
    have h1 := (HB.out.below HE1.out HB.out.lt).keep (hb.block br (Nat.lt_of_lt_of_le HB.out.lt HE1.out.size))
    exact ⟨h1.cell HRC.out.2.2.1, h1.cell HRC.out.2.2.2⟩
  go_wp2_with fail
  refine region_monos (fun ix9 => ([.is (.pointer (some ⟨br, 0, none⟩)), .is (.pointer (some ⟨br, 0, none⟩)), .is (.pointer (some ⟨br, 1, none⟩)), .is (.int .u32 (g0 : Int)), .is (.int .u32 (g1 : Int)), .is (.pointer (some ⟨br, 0, none⟩)), .is (.pointer (some ⟨br, 0, none⟩)), .is (.pointer (some ⟨br, 2, none⟩)), .is (.int .i64 (bk : Int)), .is (.int .i64 (nk : Int)), .is (.int .u32 (g1 : Int)), .is (.int .i64 (nk : Int))] : List VD).getD ix9 (.is undef)) [some 13, some 14, some 15, some 16, some 17, some 18, some 19, some 20, some 21, some 22, some 5, some 6] (by kernel_rfl) (by kernel_rfl) (by kernel_rfl) rfl (fun ii hii => ?_) ?_
  · match ii, hii with
    | 0, _ => exact mstep_first rfl (mwant_none rfl) 0 (Or.inl rfl) (by kernel_rfl) (fun _ _ => rfl)
    | 1, _ => exact mstep_pure rfl (mwant_none rfl) (fun aa ww cc => ⟨.pointer (some ⟨br, 0, none⟩), by have e0 : aa.tmps.getD 13 undef = .pointer (some ⟨br, 0, none⟩) := cc.slot 0 13 (by kernel_rfl) rfl; simp only [execOp, Act.eval]; go_simp, rfl⟩)
    | 2, _ => exact mstep_pure rfl (mwant_none rfl) (fun aa ww cc => ⟨.pointer (some ⟨br, 1, none⟩), by have e0 : aa.tmps.getD 14 undef = .pointer (some ⟨br, 0, none⟩) := cc.slot 1 14 (by kernel_rfl) rfl; simp only [execOp, Act.eval]; go_simp, rfl⟩)
    | 3, _ => exact mstep_pure rfl (mwant_none rfl) (fun aa ww cc => ⟨.int .u32 (g0 : Int), by have e0 : aa.tmps.getD 15 undef = .pointer (some ⟨br, 1, none⟩) := cc.slot 2 15 (by kernel_rfl) rfl; obtain ⟨q1, q2⟩ := CR.out _ cc.below; simp only [execOp, Act.eval]; go_simp, rfl⟩)
    | 4, _ => exact mstep_pure rfl (mwant_none rfl) (fun aa ww cc => ⟨.int .u32 (g1 : Int), by have e0 : aa.tmps.getD 16 undef = .int .u32 (g0 : Int) := cc.slot 3 16 (by kernel_rfl) rfl; obtain ⟨q1, q2, q3⟩ := QG.out; simp only [execOp, Act.eval]; go_simp, rfl⟩)
    | 5, _ => exact mstep_first rfl (mwant_none rfl) 0 (Or.inl rfl) (by kernel_rfl) (fun _ _ => rfl)
    | 6, _ => exact mstep_pure rfl (mwant_none rfl) (fun aa ww cc => ⟨.pointer (some ⟨br, 0, none⟩), by have e0 : aa.tmps.getD 18 undef = .pointer (some ⟨br, 0, none⟩) := cc.slot 5 18 (by kernel_rfl) rfl; simp only [execOp, Act.eval]; go_simp, rfl⟩)
    | 7, _ => exact mstep_pure rfl (mwant_none rfl) (fun aa ww cc => ⟨.pointer (some ⟨br, 2, none⟩), by have e0 : aa.tmps.getD 19 undef = .pointer (some ⟨br, 0, none⟩) := cc.slot 6 19 (by kernel_rfl) rfl; simp only [execOp, Act.eval]; go_simp, rfl⟩)
    | 8, _ => exact mstep_pure rfl (mwant_none rfl) (fun aa ww cc => ⟨.int .i64 (bk : Int), by have e0 : aa.tmps.getD 20 undef = .pointer (some ⟨br, 2, none⟩) := cc.slot 7 20 (by kernel_rfl) rfl; obtain ⟨q1, q2⟩ := CR.out _ cc.below; simp only [execOp, Act.eval]; go_simp, rfl⟩)
    | 9, _ => exact mstep_pure rfl (mwant_none rfl) (fun aa ww cc => ⟨.int .i64 (nk : Int), by have e0 : aa.tmps.getD 21 undef = .int .i64 (bk : Int) := cc.slot 8 21 (by kernel_rfl) rfl; obtain ⟨q1, q2⟩ := QK.out; simp only [execOp, Act.eval]; go_simp, rfl⟩)
    | 10, _ => exact mstep_copy rfl (mwant_none rfl) 17 (Or.inr rfl) 4 (by kernel_rfl) rfl rfl
    | 11, _ => exact mstep_copy rfl (mwant_none rfl) 22 (Or.inr rfl) 9 (by kernel_rfl) rfl rfl
    | n + 12, h => exact absurd h (by show ¬ (n + 12 < 12); omega)
  · intro VV w5 hlen hb5 hok
    match VV, hlen with
    | [v0, v1, v2, v3, v4, v5, v6, v7, v8, v9, v10, v11], _ =>
      obtain rfl : v0 = .pointer (some ⟨br, 0, none⟩) := hok 0 13 rfl
      obtain rfl : v1 = .pointer (some ⟨br, 0, none⟩) := hok 1 14 rfl
      obtain rfl : v2 = .pointer (some ⟨br, 1, none⟩) := hok 2 15 rfl
      obtain rfl : v3 = .int .u32 (g0 : Int) := hok 3 16 rfl
      obtain rfl : v4 = .int .u32 (g1 : Int) := hok 4 17 rfl
      obtain rfl : v5 = .pointer (some ⟨br, 0, none⟩) := hok 5 18 rfl
      obtain rfl : v6 = .pointer (some ⟨br, 0, none⟩) := hok 6 19 rfl
      obtain rfl : v7 = .pointer (some ⟨br, 2, none⟩) := hok 7 20 rfl
      obtain rfl : v8 = .int .i64 (bk : Int) := hok 8 21 rfl
      obtain rfl : v9 = .int .i64 (nk : Int) := hok 9 22 rfl
      obtain rfl : v10 = .int .u32 (g1 : Int) := hok 10 5 rfl
      obtain rfl : v11 = .int .i64 (nk : Int) := hok 11 6 rfl
      have HE2 : Hid (Below w.heap.size w w5) := Lib.hid (HE1.out.trans (Below.mono ⟨hb5.os, hb5.tape, hb5.output, hb5.size, hb5.block⟩ HE1.out.size))
      have HK2 : Hid (Blk w5 b3 ss) := Lib.hid (HK1.out.keep (hb5.block b3 HK1.out.lt))
      have HBC : Hid (Calls Tryz.prog 64 #[.int .u32 (g1 : Int), .agg ms.toArray, .slice A0 n0 c0] w5 (RetBk w5 L)) := Lib.hid (HBK.out w5 HE2.out)
      have k35 : w5.cell? ⟨b3, 35, none⟩ = some (.slice A0 n0 c0) := HK2.out.cell HSS.out.2.2.2
      clear hok hb5 CR HE1 HK1 HBK QG QK
      simp only [List.zip_cons_cons, List.zip_nil_right, putsL]
      go_simp
      go_wp2_with (((with_reducible show wpList _ _ _ (Oper.mk (some 25) (Op.load 47 _) _ _ _ _ :: _) _ _); refine wpList_loadM sMan rfl _ rfl b3 0 ms rfl (Blk.range HK2.out 0 _ ⟨[], _, by rw [HSS.out.2.1]; rfl, rfl⟩) HSS.out.2.2.1 ?_))
      go_at_call 64
      with_reducible refine HBC.out.mono ?_
      rintro e w2 ⟨Ar, cr, vs, rfl, hrow, hlp, hnew, hb2⟩
      obtain ⟨g9, hA9, hg9, hc9, _⟩ := hrow.at (j := 0) (by rw [hlp.1]; exact HL.out.2.1)
      subst hA9
      have HE3 : Hid (Below w.heap.size w w2) := Lib.hid (HE2.out.trans (hb2.mono HE2.out.size))
      have HSEC : Hid (∀ (i : Nat) (Si : List UInt8), L[i]? = some Si → ∃ Ai ci, w2.cell? ⟨g9, i, none⟩ = some (.slice Ai 64 ci) ∧ RBn w2 O Ai Si) := Lib.hid fun i Si hi => by
        obtain ⟨Ai, ci, h1, h2⟩ := hlp.2 i Si hi
        have h64 := HL.out.2.2 Si (List.mem_of_getElem? hi)
        obtain ⟨hiv, hvs⟩ := List.getElem?_eq_some_iff.1 h1
        obtain ⟨g8, e8, _, hc8, _⟩ := hrow.at (j := i) hiv
        injection e8 with e8
        injection e8 with e8
        subst e8
        rw [hvs, h64] at hc8
        exact ⟨Ai, ci, hc8, RBn.of_ob h2 fun k hk => Nat.lt_of_lt_of_le (HD.out.1.own k hk) HE2.out.size⟩
      have HNO9 : Hid (¬ O g9 ∧ g9 < w2.heap.size ∧ ¬ O b3) := Lib.hid ⟨fun e => by have := HD.out.1.own g9 e; have := hnew g9 rfl; have := HE2.out.size; omega, hg9, fun e => by have := HD.out.1.own b3 e; have := HB3.out; omega⟩
      have HK3 : Hid (Blk w2 b3 ss) := Lib.hid (HK2.out.below hb2 HK2.out.lt)
      obtain ⟨kl, hkl⟩ : ∃ k, k = L.length := ⟨_, rfl⟩
      have HKL := Lib.hid hkl
      rw [← hkl]
      -- what stays, whatever the disk does
      have HST : Hid (∀ wi Oi, Upd O w2 wi Oi → Blk wi br RC ∧ PartM wi bs bd 0 24 ∧ Blk wi b3 ss ∧ ¬ Oi br ∧ ¬ Oi b3 ∧ ¬ Oi bs ∧ ∀ (i : Nat) (Si : List UInt8), L[i]? = some Si → ∃ Ai ci, wi.cell? ⟨g9, i, none⟩ = some (.slice Ai 64 ci) ∧ RBn wi Oi Ai Si) := Lib.hid fun wi Oi hu => by
        have h1 := HB.out.below HE3.out HB.out.lt
        have h2 : PartM w2 bs bd 0 24 := Blk.below HP.out HE3.out (Blk.lt HP.out)
        refine ⟨hu.blk h1 HO.out.1, hu.blk h2 HO.out.2, hu.blk HK3.out HNO9.out.2.2, hu.out h1.lt HO.out.1, hu.out HK3.out.lt HNO9.out.2.2, hu.out (Blk.lt h2) HO.out.2, fun i Si hi => ?_⟩
        obtain ⟨Ai, ci, h3, h4⟩ := HSEC.out i Si hi
        exact ⟨Ai, ci, by rw [hu.cell HNO9.out.2.1 HNO9.out.1]; exact h3, h4.upd hu⟩
      have HD2 : Hid (DkM w2 bd O d) := Lib.hid (HD.out.1.below HE3.out)
      have HUE : Hid (∀ wi Oi, Upd O w2 wi Oi → Upd O w wi Oi) := Lib.hid fun wi Oi hu => (Upd.below HE3.out).trans hu
      have HGE : Hid (∀ wi Oi, Upd O w2 wi Oi → Gl wi) := Lib.hid fun wi Oi hu => (HG.out.below' HE3.out).upd hu HO5.out
      have FIN : Hid (∀ (w' w'' : World) (O' : Nat → Prop) (cc : Nat) (dr : Dk), Upd O w2 w' O' → DkM w' bd O' dr → w'.grownBy w'' (some br) → res = (dr, cc) → RetIns w bd O br res (.returned (.int .i64 (cc : Int))) w'') := Lib.hid fun w' w'' O' cc dr hu hd hgr he => by
        have hno := (HST.out w' O' hu).2.2.2.1
        rw [he]
        exact ⟨rfl, O', hd.same (fun k hk => hgr.block k (hd.own k hk) (by simp; exact fun e => hno (e ▸ hk))) hgr.size, (((HUE.out w' O' hu).wider (fun k => k = br)).trans (Upd.grown hgr (fun k e => by injection e with e; exact .inr e.symm))).to fun k hk => .inl (.inl hk)⟩
      have HSUR := Lib.hid HD.out.2.2
      have HPE0 := Lib.hid HD.out.2.1
      clear hrow hlp hnew hb2 hg9 hc9 hkl HBC HE2 HK2 k35 HSEC HK3
      go_wp2_with fail
      go_loopw [30] (fun s30 wr => WrS w2 bd O d a0 L s30 wr) (fun s30 _ => kl - (intOf s30).toNat)
      case atStart => exact ⟨0, O, d, Nat.zero_le _, rfl, by rw [Nat.add_zero, List.drop_zero], HD2.out, Upd.refl _ _, by rw [HPE0.out]; exact Nat.le_refl _, Nat.le_refl _⟩
      case round =>
        obtain ⟨i, Oi, di, hi, rfl, hws, hdk, hup, hpe, hsu⟩ := hrel
        have HI := Lib.hid (And.intro hi (And.intro hpe hsu))
        have HWS := Lib.hid hws
        have HDI := Lib.hid hdk
        have HUI := Lib.hid hup
        have HSI := Lib.hid (HST.out wr Oi hup)
        have CP : Hid (∀ w', Below wr.drew.heap.size wr.drew w' → w'.cell? ⟨br, 0, none⟩ = some (.pointer (some ⟨bs, 0, none⟩))) := Lib.hid fun w' hb => (HSI.out.1.keep (hb.block br HSI.out.1.lt)).cell HRC.out.2.1
        clear hi hws hdk hup hpe hsu HD2 HD HB HP
        by_cases hlt : i < kl
        · have HLT := Lib.hid hlt
          obtain ⟨Si, hSi⟩ : ∃ S, L[i]? = some S := ⟨_, List.getElem?_eq_getElem (by rw [← HKL.out]; exact hlt)⟩
          obtain ⟨Ai, ci, hc, hrb⟩ := HSI.out.2.2.2.2.2.2 i Si hSi
          have HRB := Lib.hid hrb
          have HSE := Lib.hid hSi
          have HS64 : Hid (Si.length = 64) := Lib.hid (HL.out.2.2 Si (List.mem_of_getElem? hSi))
          obtain ⟨p, hp⟩ : ∃ p, p = a0 + i := ⟨_, rfl⟩
          have QP : Hid ((a0 : Int) + (i : Int) = (p : Int) ∧ IntKind.i64.wrap (p : Int) = (p : Int)) := Lib.hid (by
            have h1 := HA0.out.1
            have h2 := HL.out.1
            have h3 := HKL.out
            rw [Go.IntWalk.i64_left]; unfold wrap64; omega)
          obtain ⟨d1, hd1⟩ : ∃ x, x = (di.write p Si).1 := ⟨_, rfl⟩
          obtain ⟨c1, hc1⟩ : ∃ x, x = (di.write p Si).2 := ⟨_, rfl⟩
          have HC1 : Hid (c1 = 0 ∨ c1 = 9) := Lib.hid (by rw [hc1]; exact (write_bounds di p Si).2.2)
          have HW1 : Hid (d1.pend.length ≤ i + 1 ∧ d1.surv.length ≤ d.surv.length) := Lib.hid (by
            have h := write_bounds di p Si
            have h2 := HI.out
            rw [← hd1] at h
            exact ⟨by omega, by omega⟩)
          have HWN : Hid (d.writes (wsFrom a0 L) = if c1 = 0 then d1.writes (wsFrom (a0 + (i + 1)) (L.drop (i + 1))) else (d1, c1)) := Lib.hid (by
            rw [HWS.out, ws_drop a0 L i Si hSi, hc1, hd1, hp]
            show (if _ then _ else _) = _
            rfl)
          have HWR : Hid (∀ w5, Below wr.heap.size wr w5 → Calls Tryz.prog 65 #[.pointer (some ⟨bs, 0, none⟩), .int .i64 (p : Int), .slice Ai 64 ci] w5 (RetDN w5 bd Oi d1 (.int .i64 (c1 : Int)))) := Lib.hid fun w5 hb => by
            have h := ewrite_calls w5 bs bd 0 24 p Oi di Ai ci Si (Blk.below HSI.out.2.1 hb (Blk.lt HSI.out.2.1)) (HDI.out.below hb) (by have h1 := HA0.out.1; have h2 := HL.out.1; have h3 := HKL.out; omega) (by decide) HS64.out (HRB.out.upd (Upd.below hb)) (by have h1 := HI.out.2.1; have h2 := HL.out.1; have h3 := HKL.out; omega) (by have h1 := HI.out.2.2; have := HSUR.out; omega)
            rw [Nat.zero_add, ← hd1, ← hc1] at h
            exact h
          clear hSi hrb hp hd1 hc1 hlt
          have hlt : (i : Int) < (kl : Int) := by have := HLT.out; omega
          have QW : Hid (wrap64 ((i : Int) + 1) = (i : Int) + 1) := Lib.hid (by have h1 := HL.out.1; have h2 := HKL.out; have h3 := HLT.out; unfold wrap64; omega)
          go_wp2_with fail
          refine region_tails 9 (fun ix9 => ([.is (.pointer (some ⟨br, 0, none⟩)), .is (.pointer (some ⟨br, 0, none⟩)), .is (.pointer (some ⟨br, 0, none⟩)), .is (.pointer (some ⟨bs, 0, none⟩)), .is (.int .i64 (nk : Int)), .is (.int .i64 (a0 : Int)), .is (.int .i64 (i : Int)), .is (.int .i64 (p : Int)), .is (.slice Ai 64 ci)] : List VD).getD ix9 (.is undef)) [some 35, some 36, some 37, some 38, some 39, some 40, some 41, some 42, some 43] (by kernel_rfl) (by kernel_rfl) (by kernel_rfl) (by kernel_rfl) rfl (fun ii hii => ?_) ?_
          · match ii, hii with
            | 0, _ => exact mstep_first rfl (mwant_none rfl) 0 (Or.inl rfl) (by kernel_rfl) (fun _ _ => rfl)
            | 1, _ => exact mstep_pure rfl (mwant_none rfl) (fun aa ww cc => ⟨.pointer (some ⟨br, 0, none⟩), by have e0 : aa.tmps.getD 35 undef = .pointer (some ⟨br, 0, none⟩) := cc.slot 0 35 (by kernel_rfl) rfl; simp only [execOp, Act.eval]; go_simp, rfl⟩)
            | 2, _ => exact mstep_pure rfl (mwant_none rfl) (fun aa ww cc => ⟨.pointer (some ⟨br, 0, none⟩), by have e0 : aa.tmps.getD 36 undef = .pointer (some ⟨br, 0, none⟩) := cc.slot 1 36 (by kernel_rfl) rfl; simp only [execOp, Act.eval]; go_simp, rfl⟩)
            | 3, _ => exact mstep_pure rfl (mwant_none rfl) (fun aa ww cc => ⟨.pointer (some ⟨bs, 0, none⟩), by have e0 : aa.tmps.getD 37 undef = .pointer (some ⟨br, 0, none⟩) := cc.slot 2 37 (by kernel_rfl) rfl; have q := CP.out _ cc.below; simp only [execOp, Act.eval]; go_simp, rfl⟩)
            | 4, _ => exact mstep_first rfl (mwant_none rfl) 6 (Or.inl rfl) (by kernel_rfl) (fun _ _ => rfl)
            | 5, _ => exact mstep_call rfl (mwant_none rfl) _ _ _ rfl (enters_of Tryz.func53 (by kernel_rfl) rfl) (fun aa ww cc => by have e0 : aa.tmps.getD 39 undef = .int .i64 (nk : Int) := cc.slot 4 39 (by kernel_rfl) rfl; simp only [List.map_toArray, List.map_cons, List.map_nil, Act.eval, e0]; exact HBA.out ww)
            | 6, _ => exact mstep_first rfl (mwant_none rfl) 7 (Or.inl rfl) (by kernel_rfl) (fun _ _ => rfl)
            | 7, _ => exact mstep_pure rfl (mwant_none rfl) (fun aa ww cc => ⟨.int .i64 (p : Int), by have e0 : aa.tmps.getD 40 undef = .int .i64 (a0 : Int) := cc.slot 5 40 (by kernel_rfl) rfl; have e1 : aa.tmps.getD 41 undef = .int .i64 (i : Int) := cc.slot 6 41 (by kernel_rfl) rfl; obtain ⟨q1, q2⟩ := QP.out; simp only [execOp, Act.eval]; go_simp, rfl⟩)
            | 8, _ => exact mstep_first rfl (mwant_none rfl) 8 (Or.inl rfl) (by kernel_rfl) (fun _ _ => rfl)
            | n + 9, h => exact absurd h (by show ¬ (n + 9 < 9); omega)
          · intro VV w5 hlen hb5 hok
            match VV, hlen with
            | [v0, v1, v2, v3, v4, v5, v6, v7, v8], _ =>
              obtain rfl : v0 = .pointer (some ⟨br, 0, none⟩) := hok 0 35 rfl
              obtain rfl : v1 = .pointer (some ⟨br, 0, none⟩) := hok 1 36 rfl
              obtain rfl : v2 = .pointer (some ⟨br, 0, none⟩) := hok 2 37 rfl
              obtain rfl : v3 = .pointer (some ⟨bs, 0, none⟩) := hok 3 38 rfl
              obtain rfl : v4 = .int .i64 (nk : Int) := hok 4 39 rfl
              obtain rfl : v5 = .int .i64 (a0 : Int) := hok 5 40 rfl
              obtain rfl : v6 = .int .i64 (i : Int) := hok 6 41 rfl
              obtain rfl : v7 = .int .i64 (p : Int) := hok 7 42 rfl
              obtain rfl : v8 = .slice Ai 64 ci := hok 8 43 rfl
              have HB5 : Hid (Below wr.heap.size wr w5) := Lib.hid ⟨hb5.os, hb5.tape, hb5.output, hb5.size, hb5.block⟩
              have HWC := Lib.hid (HWR.out w5 HB5.out)
              clear hb5 hok HWR CP QP hc
              simp only [List.zip_cons_cons, List.zip_nil_right, putsL]
              go_simp
              go_wp2_with fail
              go_at_call 65
              with_reducible refine HWC.out.mono ?_
              rintro e w6 ⟨rfl, O1, hdk6, hup6⟩
              have HU6 : Hid (Upd O w2 w6 O1) := Lib.hid (HUI.out.trans ((Upd.below HB5.out).trans hup6))
              have HD6 := Lib.hid hdk6
              clear hdk6 hup6 HWC HUI HDI HSI
              rcases HC1.out with rfl | rfl
              · have HWN2 : Hid (d.writes (wsFrom a0 L) = d1.writes (wsFrom (a0 + (i + 1)) (L.drop (i + 1)))) := Lib.hid (by rw [HWN.out, if_pos rfl])
                go_wp2_with fail
                go_roundw
                case rel => exact ⟨i + 1, O1, d1, by rw [← HKL.out]; exact HLT.out, by rw [QW.out]; rfl, HWN2.out, HD6.out, HU6.out, HW1.out.1, HW1.out.2⟩
                case measure => have h3 := HLT.out; rw [QW.out]; simp [intOf]; omega
              · have HRES : Hid (RetIns w bd O br res (.returned (.int .i64 9)) w6) := Lib.hid (FIN.out w6 w6 O1 9 d1 HU6.out HD6.out (World.grownBy.refl _ _) (by
                  have h := HWN.out
                  rw [if_neg (by decide)] at h
                  rw [HR.out, h]
                  rfl))
                go_wp2_with fail
                go_ret
                exact HRES.out
        · have hik : i = kl := by have h1 := HI.out.1; have h2 := HKL.out; omega
          have HWD : Hid (d.writes (wsFrom a0 L) = (di, 0)) := Lib.hid (by
            rw [HWS.out, hik, HKL.out, List.drop_length]
            rfl)
          have hge : ¬ (i : Int) < (kl : Int) := by omega
          have k0 : wr.cell? ⟨br, 0, none⟩ = some (.pointer (some ⟨bs, 0, none⟩)) := HSI.out.1.cell HRC.out.2.1
          obtain ⟨d2, hd2⟩ : ∃ x, x = di.flush.1 := ⟨_, rfl⟩
          obtain ⟨c2, hc2⟩ : ∃ x, x = di.flush.2 := ⟨_, rfl⟩
          have HC2 : Hid (c2 = 0 ∨ c2 = 9) := Lib.hid (by rw [hc2]; exact (flush_bounds di).2.2)
          have HB2 : Hid (d2.pend.length ≤ 11 ∧ d2.surv.length ≤ 140737488351232) := Lib.hid (by
            have h := flush_bounds di
            rw [← hd2] at h
            have h1 := HI.out
            have h2 := HL.out.1
            have h3 := HSUR.out
            exact ⟨by omega, by omega⟩)
          have HR2 : Hid (res = if c2 = 0 then (let V := d2.write y HS; if V.2 = 0 then V.1.flush else V) else (d2, c2)) := Lib.hid (by
            rw [HR.out, HWD.out, hc2, hd2]
            rfl)
          have HFL : Hid (Calls Tryz.prog 66 #[.pointer (some ⟨bs, 0, none⟩)] wr (RetD wr bd Oi d2 (.int .i64 (c2 : Int)))) := Lib.hid (by
            rw [hd2, hc2]
            exact eflush_calls wr bs bd 0 24 Oi di HSI.out.2.1 HDI.out (by have h1 := HI.out; have h2 := HL.out.1; have h3 := HKL.out; omega) (by have h1 := HI.out; have h3 := HSUR.out; omega))
          clear hlt hik hd2 hc2 CP
          go_wp2_with fail
          go_at_call 66
          with_reducible refine HFL.out.mono ?_
          rintro e w7 ⟨rfl, hdk7, hup7⟩
          have HU7 : Hid (Upd O w2 w7 Oi) := Lib.hid (HUI.out.trans hup7)
          have HD7 := Lib.hid hdk7
          have HS7 := Lib.hid (HST.out w7 Oi HU7.out)
          clear hdk7 hup7 HFL HUI HDI HSI k0 hge
          rcases HC2.out with rfl | rfl
          · have HR3 : Hid (res = (let V := d2.write y HS; if V.2 = 0 then V.1.flush else V)) := Lib.hid (by rw [HR2.out, if_pos rfl])
            obtain ⟨d3, hd3⟩ : ∃ x, x = (d2.write y HS).1 := ⟨_, rfl⟩
            obtain ⟨c3, hc3⟩ : ∃ x, x = (d2.write y HS).2 := ⟨_, rfl⟩
            have HC3 : Hid (c3 = 0 ∨ c3 = 9) := Lib.hid (by rw [hc3]; exact (write_bounds d2 y HS).2.2)
            have HB3' : Hid (d3.pend.length ≤ 12 ∧ d3.surv.length ≤ 140737488351232) := Lib.hid (by
              have h := write_bounds d2 y HS
              rw [← hd3] at h
              have h1 := HB2.out
              exact ⟨by omega, by omega⟩)
            have HR4 : Hid (res = if c3 = 0 then d3.flush else (d3, c3)) := Lib.hid (by rw [HR3.out, hc3, hd3])
            obtain ⟨B7, hB7⟩ : ∃ B, B = w7.heap.size := ⟨_, rfl⟩
            have HB7 := Lib.hid hB7
            have HW7 : Hid (∀ w5, Below w7.heap.size w7 w5 → ∀ A5 c5, OB w5 B7 A5 c5 HS → Calls Tryz.prog 65 #[.pointer (some ⟨bs, 0, none⟩), .int .i64 (y : Int), .slice A5 64 c5] w5 (RetDN w5 bd Oi d3 (.int .i64 (c3 : Int)))) := Lib.hid fun w5 hb A5 c5 ho => by
              have h := ewrite_calls w5 bs bd 0 24 y Oi d2 A5 c5 HS (Blk.below HS7.out.2.1 hb (Blk.lt HS7.out.2.1)) (HD7.out.below hb) (by have := HA0.out; omega) (by decide) HSL.out (RBn.of_ob ho fun k hk => by rw [hB7]; exact HD7.out.own k hk) (by have := HB2.out; omega) (by have := HB2.out; omega)
              rw [Nat.zero_add, ← hd3, ← hc3] at h
              exact h
            have CP : Hid (∀ w', Below w7.drew.heap.size w7.drew w' → w'.cell? ⟨br, 0, none⟩ = some (.pointer (some ⟨bs, 0, none⟩))) := Lib.hid fun w' hb => (HS7.out.1.keep (hb.block br HS7.out.1.lt)).cell HRC.out.2.1
            have HSC : Hid (∀ w', Below w7.drew.heap.size w7.drew w' → Calls Tryz.prog 67 #[.int .u32 (g1 : Int), .int .i64 (nk : Int)] w' (fun e w'' => ∃ v, e = .returned v ∧ (obVD B7 HS).ok v w'' ∧ Below w'.heap.size w' w'')) := Lib.hid fun w' hb => by
              have hbb : Below w7.heap.size w7 w' := ⟨hb.os, hb.tape, hb.output, hb.size, hb.block⟩
              refine (HHS.out w' ((HGE.out w7 Oi HU7.out).below' hbb)).mono ?_
              rintro e w'' ⟨A, c, rfl, h1, h2⟩
              exact ⟨_, rfl, ⟨A, c, rfl, h1.mono (by rw [hB7]; exact hbb.size)⟩, h2⟩
            have QY : Hid ((g1 : Int).tmod 2 = (y : Int) ∧ IntKind.u32.wrap (y : Int) = (y : Int) ∧ IntKind.i64.wrap (y : Int) = (y : Int)) := Lib.hid ⟨by rw [Int.tmod_eq_emod_of_nonneg (Int.natCast_nonneg g1)]; exact HYG.out, by rw [IntKind.wrap_u32]; have := HA0.out; omega, by rw [Go.IntWalk.i64_left]; unfold wrap64; have := HA0.out; omega⟩
            clear hd3 hc3 hB7
            go_wp2_with fail
            refine region_tails 10 (fun ix9 => ([.is (.pointer (some ⟨br, 0, none⟩)), .is (.pointer (some ⟨br, 0, none⟩)), .is (.pointer (some ⟨br, 0, none⟩)), .is (.pointer (some ⟨bs, 0, none⟩)), .is (.int .u32 (g1 : Int)), .is (.int .u32 (y : Int)), .is (.int .i64 (y : Int)), .is (.int .u32 (g1 : Int)), .is (.int .i64 (nk : Int)), obVD B7 HS] : List VD).getD ix9 (.is undef)) [some 57, some 58, some 59, some 60, some 61, some 62, some 63, some 64, some 65, some 66] (by kernel_rfl) (by kernel_rfl) (by kernel_rfl) (by kernel_rfl) rfl (fun ii hii => ?_) ?_
            · match ii, hii with
              | 0, _ => exact mstep_first rfl (mwant_none rfl) 0 (Or.inl rfl) (by kernel_rfl) (fun _ _ => rfl)
              | 1, _ => exact mstep_pure rfl (mwant_none rfl) (fun aa ww cc => ⟨.pointer (some ⟨br, 0, none⟩), by have e0 : aa.tmps.getD 57 undef = .pointer (some ⟨br, 0, none⟩) := cc.slot 0 57 (by kernel_rfl) rfl; simp only [execOp, Act.eval]; go_simp, rfl⟩)
              | 2, _ => exact mstep_pure rfl (mwant_none rfl) (fun aa ww cc => ⟨.pointer (some ⟨br, 0, none⟩), by have e0 : aa.tmps.getD 58 undef = .pointer (some ⟨br, 0, none⟩) := cc.slot 1 58 (by kernel_rfl) rfl; simp only [execOp, Act.eval]; go_simp, rfl⟩)
              | 3, _ => exact mstep_pure rfl (mwant_none rfl) (fun aa ww cc => ⟨.pointer (some ⟨bs, 0, none⟩), by have e0 : aa.tmps.getD 59 undef = .pointer (some ⟨br, 0, none⟩) := cc.slot 2 59 (by kernel_rfl) rfl; have q := CP.out _ cc.below; simp only [execOp, Act.eval]; go_simp, rfl⟩)
              | 4, _ => exact mstep_first rfl (mwant_none rfl) 5 (Or.inl rfl) (by kernel_rfl) (fun _ _ => rfl)
              | 5, _ => exact mstep_pure rfl (mwant_none rfl) (fun aa ww cc => ⟨.int .u32 (y : Int), by have e0 : aa.tmps.getD 61 undef = .int .u32 (g1 : Int) := cc.slot 4 61 (by kernel_rfl) rfl; obtain ⟨q1, q2, q3⟩ := QY.out; simp only [execOp, Act.eval]; go_simp, rfl⟩)
              | 6, _ => exact mstep_pure rfl (mwant_none rfl) (fun aa ww cc => ⟨.int .i64 (y : Int), by have e0 : aa.tmps.getD 62 undef = .int .u32 (y : Int) := cc.slot 5 62 (by kernel_rfl) rfl; obtain ⟨q1, q2, q3⟩ := QY.out; simp only [execOp, Act.eval]; go_simp, rfl⟩)
              | 7, _ => exact mstep_first rfl (mwant_none rfl) 5 (Or.inl rfl) (by kernel_rfl) (fun _ _ => rfl)
              | 8, _ => exact mstep_first rfl (mwant_none rfl) 6 (Or.inl rfl) (by kernel_rfl) (fun _ _ => rfl)
              | 9, _ => exact mstep_call rfl (mwant_none rfl) _ _ _ rfl (enters_of Tryz.func67 (by kernel_rfl) rfl) (fun aa ww cc => by have e0 : aa.tmps.getD 64 undef = .int .u32 (g1 : Int) := cc.slot 7 64 (by kernel_rfl) rfl; have e1 : aa.tmps.getD 65 undef = .int .i64 (nk : Int) := cc.slot 8 65 (by kernel_rfl) rfl; simp only [List.map_toArray, List.map_cons, List.map_nil, Act.eval, e0, e1]; exact HSC.out ww cc.below)
              | n + 10, h => exact absurd h (by show ¬ (n + 10 < 10); omega)
            · intro VV w5 hlen hb5 hok
              match VV, hlen with
              | [v0, v1, v2, v3, v4, v5, v6, v7, v8, v9], _ =>
                obtain rfl : v0 = .pointer (some ⟨br, 0, none⟩) := hok 0 57 rfl
                obtain rfl : v1 = .pointer (some ⟨br, 0, none⟩) := hok 1 58 rfl
                obtain rfl : v2 = .pointer (some ⟨br, 0, none⟩) := hok 2 59 rfl
                obtain rfl : v3 = .pointer (some ⟨bs, 0, none⟩) := hok 3 60 rfl
                obtain rfl : v4 = .int .u32 (g1 : Int) := hok 4 61 rfl
                obtain rfl : v5 = .int .u32 (y : Int) := hok 5 62 rfl
                obtain rfl : v6 = .int .i64 (y : Int) := hok 6 63 rfl
                obtain rfl : v7 = .int .u32 (g1 : Int) := hok 7 64 rfl
                obtain rfl : v8 = .int .i64 (nk : Int) := hok 8 65 rfl
                have p9 := hok 9 66 rfl
                obtain ⟨A5, c5, rfl, ho5⟩ : ∃ A c, v9 = .slice A HS.length c ∧ OB w5 B7 A c HS := p9
                have HB5 : Hid (Below w7.heap.size w7 w5) := Lib.hid ⟨hb5.os, hb5.tape, hb5.output, hb5.size, hb5.block⟩
                have HWC := Lib.hid (HW7.out w5 HB5.out A5 c5 ho5)
                rw [HSL.out]
                clear hb5 hok HW7 CP QY HSC ho5
                simp only [List.zip_cons_cons, List.zip_nil_right, putsL]
                go_simp
                go_wp2_with fail
                go_at_call 65
                with_reducible refine HWC.out.mono ?_
                rintro e w8 ⟨rfl, O8, hdk8, hup8⟩
                have HU8 : Hid (Upd O w2 w8 O8) := Lib.hid (HU7.out.trans ((Upd.below HB5.out).trans hup8))
                have HD8 := Lib.hid hdk8
                have HS8 := Lib.hid (HST.out w8 O8 HU8.out)
                clear hdk8 hup8 HWC HU7 HD7 HS7
                rcases HC3.out with rfl | rfl
                · obtain ⟨d4, hd4⟩ : ∃ x, x = d3.flush.1 := ⟨_, rfl⟩
                  obtain ⟨c4, hc4⟩ : ∃ x, x = d3.flush.2 := ⟨_, rfl⟩
                  have HC4 : Hid (c4 = 0 ∨ c4 = 9) := Lib.hid (by rw [hc4]; exact (flush_bounds d3).2.2)
                  have HR5 : Hid (res = (d4, c4)) := Lib.hid (by rw [HR4.out, if_pos rfl, hd4, hc4])
                  have HF8 : Hid (Calls Tryz.prog 66 #[.pointer (some ⟨bs, 0, none⟩)] w8 (RetD w8 bd O8 d4 (.int .i64 (c4 : Int)))) := Lib.hid (by
                    rw [hd4, hc4]
                    exact eflush_calls w8 bs bd 0 24 O8 d3 HS8.out.2.1 HD8.out (by have := HB3'.out; omega) (by have := HB3'.out; omega))
                  have k0 : w8.cell? ⟨br, 0, none⟩ = some (.pointer (some ⟨bs, 0, none⟩)) := HS8.out.1.cell HRC.out.2.1
                  clear hd4 hc4
                  go_wp2_with fail
                  go_at_call 66
                  with_reducible refine HF8.out.mono ?_
                  rintro e w9 ⟨rfl, hdk9, hup9⟩
                  have HU9 : Hid (Upd O w2 w9 O8) := Lib.hid (HU8.out.trans hup9)
                  have HD9 := Lib.hid hdk9
                  have HS9 := Lib.hid (HST.out w9 O8 HU9.out)
                  clear hdk9 hup9 HF8 HU8 HD8 HS8 k0
                  rcases HC4.out with rfl | rfl
                  · have HRB9 := Lib.hid HS9.out.1
                    go_wp2_with (((with_reducible show wpList _ _ _ (Oper.mk _ (Op.store 44 _ _) _ _ _ _ :: _) _ _); refine wpList_storeB rfl 44 _ _ rfl br 1 _ (.int .u32 (g1 : Int)) (by rw [HRC.out.1]; decide) rfl (by rfl) HRB9.out (by kernel_rfl) rfl ?_))
                    intro w10 hb10 hg10 hs10
                    obtain ⟨R1, hR1⟩ : ∃ x, x = RC.set 1 (.int .u32 (g1 : Int)) := ⟨_, rfl⟩
                    have HR1 : Hid (Blk w10 br R1 ∧ R1.length = 43) := Lib.hid (by rw [hR1, List.length_set]; exact ⟨hb10.out, HRC.out.1⟩)
                    have HG10 := Lib.hid hg10.out
                    clear hb10 hg10 hs10 hR1
                    go_wp2_with (((with_reducible show wpList _ _ _ (Oper.mk _ (Op.store 3 _ _) _ _ _ _ :: _) _ _); refine wpList_storeB rfl 3 _ _ rfl br 2 _ (.int .i64 (nk : Int)) (by rw [HR1.out.2]; decide) rfl (by rfl) HR1.out.1 (by kernel_rfl) rfl ?_))
                    intro w11 hb11 hg11 hs11
                    have HG11 : Hid (w9.grownBy w11 (some br)) := Lib.hid (HG10.out.trans hg11.out)
                    have HJ0 : Hid (w11.drew.grownBy w11.drew (some br) ∧ ∃ cs : List Value, cs.length = 43 ∧ Blk w11.drew br cs) := Lib.hid ⟨World.grownBy.refl _ _, _, by rw [List.length_set]; exact HR1.out.2, hb11.out.drew⟩
                    have HB311 : Hid (Blk w11.drew b3 ss ∧ b3 ≠ br) := Lib.hid (by
                      have hne : b3 ≠ br := fun e => by have h1 := HLB.out; have h2 := HB3.out; omega
                      exact ⟨(HS9.out.2.2.1.grown HG11.out (fun e => hne (by injection e with e; exact e.symm))).drew, hne⟩)
                    have CB : Hid (∀ w', w11.drew.grownBy w' (some br) → w'.cell? ⟨b3, 35, none⟩ = some (.slice A0 n0 c0) ∧ w'.cell? ⟨b3, 1, none⟩ = some (.int .u32 (mv : Int))) := Lib.hid fun w' hg => by
                      have h := HB311.out.1.grown hg (fun e => HB311.out.2 (by injection e with e; exact e.symm))
                      refine ⟨h.cell HSS.out.2.2.2, h.cell ?_⟩
                      rw [HSS.out.2.1, List.getElem?_append_left (by rw [HSS.out.2.2.1]; decide)]
                      exact HV.out
                    clear hb11 hg11 hs11 HR1 HG10 HRB9
                    go_wp2_with fail
                    refine region_vals [.pointer (some ⟨br, 0, none⟩), .pointer (some ⟨br, 0, none⟩), .pointer (some ⟨br, 0, none⟩), .pointer (some ⟨b3, 35, none⟩), .slice A0 n0 c0, .pointer (some ⟨b3, 0, none⟩), .pointer (some ⟨b3, 1, none⟩), .int .u32 (mv : Int), .pointer (some ⟨br, 0, none⟩), .pointer (some ⟨br, 3, none⟩), undef, .pointer (some ⟨br, 0, none⟩), .pointer (some ⟨br, 4, none⟩), undef, .pointer (some ⟨br, 0, none⟩), .pointer (some ⟨br, 5, none⟩), undef] [some 87, some 88, some 89, some 90, some 91, some 92, some 93, some 94, some 95, some 96, none, some 97, some 98, none, some 99, some 100, none] (fun (_ : Nat → Bool) ww => w11.drew.grownBy ww (some br) ∧ ∃ cs : List Value, cs.length = 43 ∧ Blk ww br cs) (by kernel_rfl) (by kernel_rfl) (by kernel_rfl) rfl rfl HJ0.out (fun ii hii => ?_) ?_
                    · match ii, hii with
                      | 0, _ => exact vstep_first rfl (vwant_none rfl) (fun LL ww hj => hj) 0 (Or.inl rfl) (by kernel_rfl) rfl
                      | 1, _ => exact vstep_first rfl (vwant_none rfl) (fun LL ww hj => hj) 0 (Or.inl rfl) (by kernel_rfl) rfl
                      | 2, _ => exact vstep_first rfl (vwant_none rfl) (fun LL ww hj => hj) 0 (Or.inl rfl) (by kernel_rfl) rfl
                      | 3, _ => exact vstep_pure rfl (vwant_none rfl) (fun LL ww hj => hj) (fun LL aa ww cc => ⟨.pointer (some ⟨b3, 35, none⟩), by have e0 : aa.tmps.getD 3 undef = .pointer (some ⟨b3, 0, none⟩) := (cc.orig 3 (by kernel_rfl)).trans rfl; simp only [execOp, Act.eval]; go_simp, rfl⟩)
                      | 4, _ => exact vstep_pure rfl (vwant_none rfl) (fun LL ww hj => hj) (fun LL aa ww cc => ⟨.slice A0 n0 c0, by have e0 : aa.tmps.getD 90 undef = .pointer (some ⟨b3, 35, none⟩) := cc.slot 3 90 (by kernel_rfl) rfl; obtain ⟨q1, q2⟩ := CB.out _ cc.world.1; simp only [execOp, Act.eval]; go_simp, rfl⟩)
                      | 5, _ => exact vstep_pure rfl (vwant_none rfl) (fun LL ww hj => hj) (fun LL aa ww cc => ⟨.pointer (some ⟨b3, 0, none⟩), by have e0 : aa.tmps.getD 3 undef = .pointer (some ⟨b3, 0, none⟩) := (cc.orig 3 (by kernel_rfl)).trans rfl; simp only [execOp, Act.eval]; go_simp, rfl⟩)
                      | 6, _ => exact vstep_pure rfl (vwant_none rfl) (fun LL ww hj => hj) (fun LL aa ww cc => ⟨.pointer (some ⟨b3, 1, none⟩), by have e0 : aa.tmps.getD 92 undef = .pointer (some ⟨b3, 0, none⟩) := cc.slot 5 92 (by kernel_rfl) rfl; simp only [execOp, Act.eval]; go_simp, rfl⟩)
                      | 7, _ => exact vstep_pure rfl (vwant_none rfl) (fun LL ww hj => hj) (fun LL aa ww cc => ⟨.int .u32 (mv : Int), by have e0 : aa.tmps.getD 93 undef = .pointer (some ⟨b3, 1, none⟩) := cc.slot 6 93 (by kernel_rfl) rfl; obtain ⟨q1, q2⟩ := CB.out _ cc.world.1; simp only [execOp, Act.eval]; go_simp, rfl⟩)
                      | 8, _ => exact vstep_pure rfl (vwant_none rfl) (fun LL ww hj => hj) (fun LL aa ww cc => ⟨.pointer (some ⟨br, 0, none⟩), by have e0 : aa.tmps.getD 87 undef = .pointer (some ⟨br, 0, none⟩) := cc.slot 0 87 (by kernel_rfl) rfl; simp only [execOp, Act.eval]; go_simp, rfl⟩)
                      | 9, _ => exact vstep_pure rfl (vwant_none rfl) (fun LL ww hj => hj) (fun LL aa ww cc => ⟨.pointer (some ⟨br, 3, none⟩), by have e0 : aa.tmps.getD 95 undef = .pointer (some ⟨br, 0, none⟩) := cc.slot 8 95 (by kernel_rfl) rfl; simp only [execOp, Act.eval]; go_simp, rfl⟩)
                      | 10, _ => exact vstep_storeB 4 96 (.const (.bool true)) br 3 (.bool true) (by kernel_rfl) rfl rfl (vwant_none rfl) rfl (fun LL aa ww cc => cc.slot 9 96 (by kernel_rfl) rfl) (fun LL aa ww cc => rfl) (fun LL ww hj hf => by obtain ⟨h1, cs, h2, h3⟩ := hj; exact ⟨cs, by omega, h3, fun w9 hb9 hg9 => ⟨h1.trans hg9, _, by rw [List.length_set]; exact h2, hb9⟩⟩) rfl
                      | 11, _ => exact vstep_pure rfl (vwant_none rfl) (fun LL ww hj => hj) (fun LL aa ww cc => ⟨.pointer (some ⟨br, 0, none⟩), by have e0 : aa.tmps.getD 88 undef = .pointer (some ⟨br, 0, none⟩) := cc.slot 1 88 (by kernel_rfl) rfl; simp only [execOp, Act.eval]; go_simp, rfl⟩)
                      | 12, _ => exact vstep_pure rfl (vwant_none rfl) (fun LL ww hj => hj) (fun LL aa ww cc => ⟨.pointer (some ⟨br, 4, none⟩), by have e0 : aa.tmps.getD 97 undef = .pointer (some ⟨br, 0, none⟩) := cc.slot 11 97 (by kernel_rfl) rfl; simp only [execOp, Act.eval]; go_simp, rfl⟩)
                      | 13, _ => exact vstep_storeB 36 98 (.tmp 91) br 4 (.slice A0 n0 c0) (by kernel_rfl) rfl rfl (vwant_none rfl) rfl (fun LL aa ww cc => cc.slot 12 98 (by kernel_rfl) rfl) (fun LL aa ww cc => cc.slot 4 91 (by kernel_rfl) rfl) (fun LL ww hj hf => by obtain ⟨h1, cs, h2, h3⟩ := hj; exact ⟨cs, by omega, h3, fun w9 hb9 hg9 => ⟨h1.trans hg9, _, by rw [List.length_set]; exact h2, hb9⟩⟩) rfl
                      | 14, _ => exact vstep_pure rfl (vwant_none rfl) (fun LL ww hj => hj) (fun LL aa ww cc => ⟨.pointer (some ⟨br, 0, none⟩), by have e0 : aa.tmps.getD 89 undef = .pointer (some ⟨br, 0, none⟩) := cc.slot 2 89 (by kernel_rfl) rfl; simp only [execOp, Act.eval]; go_simp, rfl⟩)
                      | 15, _ => exact vstep_pure rfl (vwant_none rfl) (fun LL ww hj => hj) (fun LL aa ww cc => ⟨.pointer (some ⟨br, 5, none⟩), by have e0 : aa.tmps.getD 99 undef = .pointer (some ⟨br, 0, none⟩) := cc.slot 14 99 (by kernel_rfl) rfl; simp only [execOp, Act.eval]; go_simp, rfl⟩)
                      | 16, _ => exact vstep_storeB 44 100 (.tmp 94) br 5 (.int .u32 (mv : Int)) (by kernel_rfl) rfl rfl (vwant_none rfl) rfl (fun LL aa ww cc => cc.slot 15 100 (by kernel_rfl) rfl) (fun LL aa ww cc => cc.slot 7 94 (by kernel_rfl) rfl) (fun LL ww hj hf => by obtain ⟨h1, cs, h2, h3⟩ := hj; exact ⟨cs, by omega, h3, fun w9 hb9 hg9 => ⟨h1.trans hg9, _, by rw [List.length_set]; exact h2, hb9⟩⟩) rfl
                      | n + 17, h => exact absurd h (by show ¬ (n + 17 < 17); omega)
                    · intro L9 w12 hall hJ
                      have HRES : Hid (RetIns w bd O br res (.returned (.int .i64 0)) w12) := Lib.hid (FIN.out w9 w12 O8 0 d4 HU9.out HD9.out (HG11.out.trans ⟨hJ.1.os, hJ.1.tape, hJ.1.output, hJ.1.size, hJ.1.block⟩) HR5.out)
                      clear hall hJ HJ0 CB
                      simp only [List.zip_cons_cons, List.zip_nil_right, putsL]
                      go_simp
                      go_wp2_with fail
                      go_ret
                      exact HRES.out
                  · have HRES : Hid (RetIns w bd O br res (.returned (.int .i64 9)) w9) := Lib.hid (FIN.out w9 w9 O8 9 d4 HU9.out HD9.out (World.grownBy.refl _ _) HR5.out)
                    go_wp2_with fail
                    go_ret
                    exact HRES.out
                · have HRES : Hid (RetIns w bd O br res (.returned (.int .i64 9)) w8) := Lib.hid (FIN.out w8 w8 O8 9 d3 HU8.out HD8.out (World.grownBy.refl _ _) (by rw [HR4.out, if_neg (by decide)]))
                  go_wp2_with fail
                  go_ret
                  exact HRES.out
          · have HRES : Hid (RetIns w bd O br res (.returned (.int .i64 9)) w7) := Lib.hid (FIN.out w7 w7 Oi 9 d2 HU7.out HD7.out (World.grownBy.refl _ _) (by rw [HR2.out, if_neg (by decide)]))
            go_wp2_with fail
            go_ret
            exact HRES.out
end Go.Proofs.YtjfpoahmjgeogaaGreatDoor
/- loader: Install. -/
namespace Nac.Img
theorem writes_surv : ∀ (ws : List (Nat × List UInt8)) (d : Dk), (d.writes ws).1.surv.length ≤ d.surv.length
  | [], _ => Nat.le_refl _
  | x :: ws, d => by
    have h := (write_bounds d x.1 x.2).2.1
    show (if (d.write x.1 x.2).2 = 0 then (d.write x.1 x.2).1.writes ws else d.write x.1 x.2).1.surv.length ≤ _
    split
    · exact Nat.le_trans (writes_surv ws _) h
    · exact h
theorem flush_pend (d : Dk) (h : d.flush.2 = 0) : d.flush.1.pend = [] := by
  unfold Dk.flush at h ⊢
  split
  · rfl
  · rename_i h1
    rw [if_neg h1] at h
    cases h
theorem inst_after (r : Reg) (d : Dk) (m : Man) (b : List UInt8) : (instF r d m b).2.1.surv.length ≤ d.surv.length ∧ ((instF r d m b).2.2 = 0 → (instF r d m b).2.1.pend = []) := by
  rw [inst_out]
  dsimp only
  have h1 := writes_surv (wsFrom (bankAtF (1 - r.bank)) (bankF (r.gen + 1) m b)) d
  generalize d.writes (wsFrom (bankAtF (1 - r.bank)) (bankF (r.gen + 1) m b)) = W at h1 ⊢
  have h2 := (flush_bounds W.1).2.1
  generalize W.1.flush = F at h2 ⊢
  have h3 := (write_bounds F.1 ((r.gen + 1) % 2) (headSec (r.gen + 1) (1 - r.bank))).2.1
  generalize F.1.write ((r.gen + 1) % 2) (headSec (r.gen + 1) (1 - r.bank)) = V at h3 ⊢
  have h4 := (flush_bounds V.1).2.1
  by_cases q1 : W.2 = 0
  · rw [if_pos q1]
    by_cases q2 : F.2 = 0
    · rw [if_pos q2]
      by_cases q3 : V.2 = 0
      · rw [if_pos q3]
        exact ⟨by omega, flush_pend _⟩
      · rw [if_neg q3]
        exact ⟨by omega, fun h => absurd h q3⟩
    · rw [if_neg q2]
      exact ⟨by omega, fun h => absurd h q2⟩
  · rw [if_neg q1]
    exact ⟨h1, fun h => absurd h q1⟩
theorem install_bad (r : Reg) (es : List Ent) (d : Dk) (m : Man) (b : List UInt8) (cd : Nat) {sha okP} (hn : es.length < 16) (hg : r.gen ≠ 4294967295) (hk : imgOk sha okP m b = false) :
    (installF sha okP ⟨r, es⟩ d m b cd).2 = if (addF es d ⟨2, m.part.toNat, m.ver, cd⟩).2.2 ≠ 0 then (addF es d ⟨2, m.part.toNat, m.ver, cd⟩).2 else ((addF es d ⟨2, m.part.toNat, m.ver, cd⟩).2.1, cd) := by
  unfold installF
  rw [if_neg (by simp only; omega), if_neg (by rw [hk]; decide)]
  dsimp only
  split <;> rfl
theorem install_good (r : Reg) (es : List Ent) (d : Dk) (m : Man) (b : List UInt8) (cd : Nat) {sha okP} (hn : es.length < 16) (hg : r.gen ≠ 4294967295) (hk : imgOk sha okP m b = true) :
    (installF sha okP ⟨r, es⟩ d m b cd).2 = if (instF r d m b).2.2 ≠ 0 then (instF r d m b).2 else (addF es (instF r d m b).2.1 ⟨1, m.part.toNat, m.ver, 0⟩).2 := by
  unfold installF
  rw [if_neg (by simp only; omega), if_pos hk]
  dsimp only
  by_cases h : (instF r d m b).2.2 = 0
  · simp only [h, ne_eq, not_true, if_false]
    generalize addF es (instF r d m b).2.1 ⟨1, m.part.toNat, m.ver, 0⟩ = e
    by_cases h2 : e.2.2 = 0
    · simp only [h2, not_true, if_false]
      rw [← h2]
    · simp only [h2, not_false_eq_true, if_true]
  · simp only [h, ne_eq, not_false_eq_true, if_true]
end Nac.Img
namespace Go.Proofs.YtjfpoahmjgeogaaGreatDoor
open Go.RowKit Nac Nac.Img Nac.Sha Nac.Crc
theorem build_ent (w : World) (p v : Int) : (Instr.build 105 #[(0, .int .i64 1), (1, .int .i64 p), (2, .int .u32 v)]).run Tryz.prog w = .ok (.agg (#[.int .i64 1, .int .i64 p, .int .u32 v, .int .i64 0] : Array Value)) w := run_build w _ _ _ (by kernel_rfl)
theorem _root_.Nac.Upd.sto {P O' : Nat → Prop} {w0 w w' : World} {b : Nat} (h : Upd P w0 w O') (hg : w.grownBy w' (some b)) (hb : P b ∨ w0.heap.size ≤ b) : Upd P w0 w' O' :=
  ⟨hg.os.trans h.os, hg.tape.trans h.tape, hg.output.trans h.output, Nat.le_trans h.size hg.size, fun k hk hn => (hg.block k (Nat.lt_of_lt_of_le hk h.size) (fun e => by
    injection e with e
    rcases hb with hb | hb
    · exact hn (by rw [e]; exact hb)
    · omega)).trans (h.keep k hk hn), h.new⟩
def LdO (bl br bg : Nat) (Ae : Option Addr) (k : Nat) : Prop := k = bl ∨ k = br ∨ LogO bg Ae k
structure IsS (w0 w : World) (bl br bg bs bq : Nat) (Ae : Option Addr) (ce bd n : Nat) (O O' : Nat → Prop) (d : Dk) : Prop where
  up : Upd (fun k => O k ∨ LdO bl br bg Ae k) w0 w O'
  dk : DkM w bd O' d
  lb : Blk w bl (lcells br (.pointer (some ⟨bg, 0, none⟩)) 16)
  li : LogI w bg bq Ae ce n
  ps : PartM w bs bd 0 24
  pq : PartM w bq bd 24 16
  no : ¬ O' bl ∧ ¬ O' bg ∧ ¬ O' bs ∧ ¬ O' bq ∧ ∀ g, Ae.map (·.block) = some g → ¬ O' g
section
variable {w0 w w' : World} {bl br bg bs bq : Nat} {Ae : Option Addr} {ce bd n : Nat} {O O' O'' : Nat → Prop} {d d' : Dk}
theorem IsS.below (h : IsS w0 w bl br bg bs bq Ae ce bd n O O' d) (hb : Below w.heap.size w w') : IsS w0 w' bl br bg bs bq Ae ce bd n O O' d :=
  ⟨(h.up.trans (Upd.below hb)), h.dk.below hb, h.lb.below hb h.lb.lt, h.li.below hb, Blk.below h.ps hb (Blk.lt h.ps), Blk.below h.pq hb (Blk.lt h.pq), h.no⟩
theorem IsS.sto {b : Nat} (h : IsS w0 w bl br bg bs bq Ae ce bd n O O' d) (hg : w.grownBy w' (some b)) (hb : b = br ∨ w0.heap.size ≤ b) (n1 : b ≠ bl) (n2 : b ≠ bg) (n3 : ∀ g, Ae.map (·.block) = some g → b ≠ g) (n4 : b ≠ bs) (n5 : b ≠ bq) (n6 : ¬ O' b) : IsS w0 w' bl br bg bs bq Ae ce bd n O O' d :=
  ⟨h.up.sto hg (by rcases hb with rfl | hb; exact .inl (.inr (.inr (.inl rfl))); exact .inr hb), h.dk.same (fun k hk => hg.block k (h.dk.own k hk) (fun e => by injection e with e; exact n6 (e ▸ hk))) hg.size,
   h.lb.grown hg (fun e => n1 (by injection e)), h.li.upd (Upd.grown (O := fun k => k = b) hg (fun j e => by injection e with e; exact e.symm)) (fun e => n2 e.symm) (fun g hg' e => n3 g hg' e.symm),
   Blk.grown h.ps hg (fun e => n4 (by injection e)), Blk.grown h.pq hg (fun e => n5 (by injection e)), h.no⟩
theorem IsS.inst (h : IsS w0 w bl br bg bs bq Ae ce bd n O O' d) (ne : bl ≠ br ∧ bg ≠ br ∧ bs ≠ br ∧ bq ≠ br ∧ ∀ g, Ae.map (·.block) = some g → g ≠ br) (hu : Upd (fun k => O' k ∨ k = br) w w' O'') (hd : DkM w' bd O'' d') : IsS w0 w' bl br bg bs bq Ae ce bd n O O'' d' := by
  have hl := h.li.blk.lt
  have hla := h.li.lt
  refine ⟨?_, hd, hu.blk h.lb (fun e => e.elim h.no.1 ne.1), h.li.upd hu (fun e => e.elim h.no.2.1 ne.2.1) (fun g hg e => e.elim (h.no.2.2.2.2 g hg) (ne.2.2.2.2 g hg)), hu.blk h.ps (fun e => e.elim h.no.2.2.1 ne.2.2.1), hu.blk h.pq (fun e => e.elim h.no.2.2.2.1 ne.2.2.2.1),
    hu.out h.lb.lt (fun e => e.elim h.no.1 ne.1), hu.out hl (fun e => e.elim h.no.2.1 ne.2.1), hu.out (Blk.lt h.ps) (fun e => e.elim h.no.2.2.1 ne.2.2.1), hu.out (Blk.lt h.pq) (fun e => e.elim h.no.2.2.2.1 ne.2.2.2.1), fun g hg => hu.out (hla g hg) (fun e => e.elim (h.no.2.2.2.2 g hg) (ne.2.2.2.2 g hg))⟩
  · refine ⟨hu.os.trans h.up.os, hu.tape.trans h.up.tape, hu.output.trans h.up.output, Nat.le_trans h.up.size hu.size, fun k hk hn => (hu.keep k (Nat.lt_of_lt_of_le hk h.up.size) (fun e => ?_)).trans (h.up.keep k hk hn), fun k hk => ?_⟩
    · rcases e with e | e
      · rcases h.up.new k e with e | e
        · exact hn e
        · omega
      · exact hn (.inr (.inr (.inl e)))
    · rcases hu.new k hk with (e | e) | e
      · exact h.up.new k e
      · exact .inl (.inr (.inr (.inl e)))
      · exact .inr (Nat.le_trans h.up.size e)
end
end Go.Proofs.YtjfpoahmjgeogaaGreatDoor
