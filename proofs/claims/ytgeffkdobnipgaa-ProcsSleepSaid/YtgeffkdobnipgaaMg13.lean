/- Bundle 13 of the texts DoP. -/
import Derived.Test.YtgeffkdobnipgaaMg12
/- An act of both: the set's and the document's. -/
namespace Go.Proofs.Ytgeffkdobnipgaa
open Go.RowKit Nac Nac.Procs
/-- a value of some kind, whatever becomes of the world -/
def anyI : RD (fun _ _ => True) := .pr (fun v _ => isI v) fun _ _ _ h _ => h
def anyO : RD (fun _ _ => True) := .pr (fun v _ => isO v) fun _ _ _ h _ => h
def anyB : RD (fun _ _ => True) := .pr (fun v _ => ∃ z : Bool, v = .bool z) fun _ _ _ h _ => h
theorem rstep_eqO {ops : Array Oper} {Q : Exit → Act → World → Prop} {D : Nat → RD (fun _ _ => True)} {J : (Nat → Bool) → World → Prop} {a0 : Act} {i : Nat} {o : Oper} (hrefl : ∀ w : World, (fun _ _ => True : World → World → Prop) w w) (ho : ops[i]? = some o) (hw : ∀ L a w, RCtx ops (fun _ _ => True) D J a0 i L a w → Region.wanted o (yielded ops a.tmps) = true) (hJ : ∀ L w, J L w → J (upd L i) w) (x y : Tmp) (hop : o.op = .binOp .eql 37 (.tmp x) (.tmp y) 37)
    (hx : ∀ L a w, RCtx ops (fun _ _ => True) D J a0 i L a w → isO (a.tmps.getD x undef)) (hy : ∀ L a w, RCtx ops (fun _ _ => True) D J a0 i L a w → isO (a.tmps.getD y undef)) (hD : D i = anyB) : RStep Try.prog ops Q (fun _ _ => True) D J a0 i :=
  rstep_pure hrefl ho hw hJ fun L a w c => by
    obtain ⟨u, h1⟩ := hx L a w c
    obtain ⟨v, h2⟩ := hy L a w c
    refine ⟨.bool (outEq u v), ?_, by rw [hD]; exact ⟨_, rfl⟩⟩
    simp only [execOp, hop, Act.eval, h1, h2]
    rw [Sem.run_bind, run_eql_out]
    rfl
/-- both sets, side by side, above B -/
def TwoM (B : Nat) (w0 : World) (S R : Nat) (P0 : PSet) (b : Nat) (w : World) : Prop := ∃ P A c M A' c', Inv P ∧ Same P0 P ∧ SetM w S P A c ∧ RefM w R M A' c' ∧ RInv M b ∧ (∀ k, Foot S A k → B ≤ k) ∧ (∀ k, Foot R A' k → B ≤ k) ∧ (∀ k, Foot S A k → ¬ Foot R A' k) ∧ Below B w0 w ∧ B ≤ w0.heap.size
/-- .. and a box beside them -/
def TwoB (B : Nat) (w0 : World) (S R : Nat) (P0 : PSet) (b : Nat) (bo : Nat) (cs : List Value) (w : World) : Prop := ∃ P A c M A' c', Inv P ∧ Same P0 P ∧ SetM w S P A c ∧ RefM w R M A' c' ∧ RInv M b ∧ (∀ k, Foot S A k → B ≤ k) ∧ (∀ k, Foot R A' k → B ≤ k) ∧ (∀ k, Foot S A k → ¬ Foot R A' k) ∧ Below B w0 w ∧ B ≤ w0.heap.size ∧ Blk w bo cs ∧ ¬ Foot S A bo ∧ ¬ Foot R A' bo
section
variable {B : Nat} {w0 w w' : World} {S R : Nat} {P0 : PSet} {b bo : Nat} {cs : List Value}
theorem TwoM.boxed (h : TwoM B w0 S R P0 b w) (hb : Blk w' w.heap.size cs) (hg : w.grownBy w' none) : TwoB B w0 S R P0 b w.heap.size cs w' := by
  obtain ⟨P, A, c, M, A', c', h1, h2, h3, h4, h5, h6, h7, h8, h9, h10⟩ := h
  exact ⟨P, A, c, M, A', c', h1, h2, h3.apart hg (fun k e => by cases e), Mem.apart h4 hg (fun k e => by cases e), h5, h6, h7, h8, h9.trans (grown_below hg (Nat.le_trans h10 h9.size) fun k e => by cases e), h10, hb, h3.notFoot (Nat.le_refl _), Mem.notFoot h4 (Nat.le_refl _)⟩
theorem TwoB.bare (h : TwoB B w0 S R P0 b bo cs w) : TwoM B w0 S R P0 b w := by
  obtain ⟨P, A, c, M, A', c', h1, h2, h3, h4, h5, h6, h7, h8, h9, h10, _⟩ := h
  exact ⟨P, A, c, M, A', c', h1, h2, h3, h4, h5, h6, h7, h8, h9, h10⟩
theorem TwoB.box (h : TwoB B w0 S R P0 b bo cs w) : Blk w bo cs := by
  obtain ⟨P, A, c, M, A', c', h1, h2, h3, h4, h5, h6, h7, h8, h9, h10, h11, _⟩ := h
  exact h11
theorem SetM.flt {P : PSet} {A : Nat → Option Addr} {c : Nat → Nat} (h : SetM w S P A c) {k : Nat} (hk : Foot S A k) : k < w.heap.size := Nat.lt_of_not_le fun h2 => h.notFoot h2 hk
theorem RefM.flt {M : RSt} {A : Nat → Option Addr} {c : Nat → Nat} (h : RefM w R M A c) {k : Nat} (hk : Foot R A k) : k < w.heap.size := Nat.lt_of_not_le fun h2 => Mem.notFoot h h2 hk
/-- a call of the set's -/
theorem TwoB.set (h : TwoB B w0 S R P0 b bo cs w) {F : FuncId} {args : Array Value} {is : Value → Prop} (hc : ∀ P A c, SetM w S P A c → Inv P → ∃ v P', Calls Try.prog F args w (RetSet w S A v P') ∧ Inv P' ∧ Same P P' ∧ is v) :
    Calls Try.prog F args w fun e w' => ∃ v, e = .returned v ∧ is v ∧ True ∧ TwoB B w0 S R P0 b bo cs w' := by
  obtain ⟨P, A, c, M, A', c', h1, h2, h3, h4, h5, h6, h7, h8, h9, h10, h11, h12, h13⟩ := h
  obtain ⟨v, P', hcall, hI, hs, hv⟩ := hc P A c h3 h1
  refine hcall.mono ?_
  rintro e w' ⟨rfl, A2, c2, hm, hf⟩
  refine ⟨v, rfl, hv, trivial, P', A2, c2, M, A', c', hI, h2.trans hs, hm, Mem.keepF h4 (fun k hk hfk => hf.block k hk fun e => h8 k e hfk), h5, fun k hk => ?_, h7, fun k hk hk2 => ?_, hf.out h9 h6 h10, h10, hf.blk h11 h12, hf.nf h12 h11.lt, h13⟩
  · rcases hf.foot k hk with h | h
    · exact h6 k h
    · exact Nat.le_trans (Nat.le_trans h10 h9.size) h
  · rcases hf.foot k hk with h | h
    · exact h8 k h hk2
    · have := RefM.flt h4 hk2; omega
/-- a call of the document's -/
theorem TwoB.ref (h : TwoB B w0 S R P0 b bo cs w) {F : FuncId} {args : Array Value} {is : Value → Prop} (hc : ∀ M A c, RefM w R M A c → RInv M b → Calls Try.prog F args w (RetRI w R A b is)) :
    Calls Try.prog F args w fun e w' => ∃ v, e = .returned v ∧ is v ∧ True ∧ TwoB B w0 S R P0 (b + 1) bo cs w' := by
  obtain ⟨P, A, c, M, A', c', h1, h2, h3, h4, h5, h6, h7, h8, h9, h10, h11, h12, h13⟩ := h
  refine (hc M A' c' h4 h5).mono ?_
  rintro e w' ⟨v, M', rfl, hv, ⟨A2, c2, hm, hf⟩, hI⟩
  refine ⟨v, rfl, hv, trivial, P, A, c, M', A2, c2, h1, h2, h3.keepF hf.size (fun k hk hfk => hf.block k hk fun e => h8 k hfk e), hm, hI, h6, fun k hk => ?_, fun k hk hk2 => ?_, hf.out h9 h7 h10, h10, hf.blk h11 h13, h12, hf.nf h13 h11.lt⟩
  · rcases hf.foot k hk with h | h
    · exact h7 k h
    · exact Nat.le_trans (Nat.le_trans h10 h9.size) h
  · rcases hf.foot k hk2 with h | h
    · exact h8 k hk h
    · have := SetM.flt h3 hk; omega
end
def DoJ (B : Nat) (w0 : World) (S R : Nat) (P0 : PSet) (b bo : Nat) (cs : List Value) (im : Nat) (L : Nat → Bool) (w : World) : Prop := TwoB B w0 S R P0 (if L im = true then b + 1 else b) bo cs w
section
variable {B : Nat} {w0 w w' : World} {S R : Nat} {P0 : PSet} {b bo : Nat} {cs : List Value} {im : Nat} {L : Nat → Bool}
theorem DoJ.pure {i : Nat} (hi : i ≠ im) (L : Nat → Bool) (w : World) (h : DoJ B w0 S R P0 b bo cs im L w) : DoJ B w0 S R P0 b bo cs im (upd L i) w := by
  unfold DoJ at *
  rw [upd_off (fun e => hi e.symm)]
  exact h
theorem DoJ.box {ki nn tt vv : Int} (h : DoJ B w0 S R P0 b bo [.int .i64 ki, .int .i64 nn, .int .i64 tt, .int .i64 vv] im L w) : w.cell? ⟨bo, 0, none⟩ = some (.int .i64 ki) ∧ w.cell? ⟨bo, 1, none⟩ = some (.int .i64 nn) ∧ w.cell? ⟨bo, 2, none⟩ = some (.int .i64 tt) ∧ w.cell? ⟨bo, 3, none⟩ = some (.int .i64 vv) :=
  ⟨(TwoB.box h).cell rfl, (TwoB.box h).cell rfl, (TwoB.box h).cell rfl, (TwoB.box h).cell rfl⟩
theorem DoJ.start (h : TwoB B w0 S R P0 b bo cs w) : DoJ B w0 S R P0 b bo cs im (fun _ => false) w.drew := by
  obtain ⟨P, A, c, M, A', c', h1, h2, h3, h4, h5, h6, h7, h8, h9, h10, h11, h12, h13⟩ := h
  exact ⟨P, A, c, M, A', c', h1, h2, h3.below ⟨rfl, rfl, rfl, Nat.le_refl _, fun _ _ => rfl⟩, h4.drewN 1, h5, h6, h7, h8, h9.trans ⟨rfl, rfl, rfl, Nat.le_refl _, fun _ _ => rfl⟩, h10, h11.drew, h12, h13⟩
/-- the set's call, in a drawn region -/
theorem DoJ.set {i : Nat} (hi : i ≠ im) {F : FuncId} {args : Array Value} {is : Value → Prop} (hc : ∀ w P A c, SetM w S P A c → Inv P → ∃ v P', Calls Try.prog F args w (RetSet w S A v P') ∧ Inv P' ∧ Same P P' ∧ is v) (L : Nat → Bool) (w : World) (h : DoJ B w0 S R P0 b bo cs im L w) :
    Calls Try.prog F args w fun e w' => ∃ v, e = .returned v ∧ is v ∧ True ∧ DoJ B w0 S R P0 b bo cs im (upd L i) w' := by
  refine (TwoB.set h (hc w)).mono ?_
  rintro e w' ⟨v, rfl, hv, _, h2⟩
  exact ⟨v, rfl, hv, trivial, DoJ.pure hi L w' h2⟩
theorem DoJ.ref {F : FuncId} {args : Array Value} {is : Value → Prop} (hc : ∀ w M A c, RefM w R M A c → RInv M b → Calls Try.prog F args w (RetRI w R A b is)) (L : Nat → Bool) (w : World) (h : DoJ B w0 S R P0 b bo cs im L w) (hL : L im = false) :
    Calls Try.prog F args w fun e w' => ∃ v, e = .returned v ∧ is v ∧ True ∧ DoJ B w0 S R P0 b bo cs im (upd L im) w' := by
  unfold DoJ at h
  rw [hL] at h
  refine (TwoB.ref h (hc w)).mono ?_
  rintro e w' ⟨v, rfl, hv, _, h2⟩
  refine ⟨v, rfl, hv, trivial, ?_⟩
  unfold DoJ
  rw [upd_self]
  exact h2
end
def RetTwo (B : Nat) (w0 : World) (S R : Nat) (P0 : PSet) (b : Nat) (e : Ending) (w' : World) : Prop := ∃ z : Bool, e = .returned (.bool z) ∧ TwoM B w0 S R P0 b w'
set_option maxRecDepth 100000 in
set_option maxHeartbeats 1000000 in
theorem do_start (B : Nat) (w0 w : World) (S R : Nat) (P0 : PSet) (b : Nat) (h : TwoM B w0 S R P0 b w) (hb : b < 100) (ki nn tt vv : Int) (hk : ki = 0) :
    Calls Try.prog 36 #[.pointer (some ⟨S, 0, none⟩), .pointer (some ⟨R, 0, none⟩), .agg #[.int .i64 ki, .int .i64 nn, .int .i64 tt, .int .i64 vv]] w (RetTwo B w0 S R P0 (b + 1)) := by
  have H := Lib.hid h
  have HB := Lib.hid hb
  clear h hb
  subst hk
  go_enter Try.func36, Try.ntmps36
  go_wp2_with ((with_reducible show wpList _ _ _ (Oper.mk _ (Op.box 74 _) _ _ _ _ :: _) _ _); refine wpList_boxS (T := 74) rfl _ rfl [.int .i64 0, .int .i64 nn, .int .i64 tt, .int .i64 vv] rfl ?_)
  intro w1 hb1 hg1 hs1
  obtain ⟨bo, hbo⟩ : ∃ b, b = w.heap.size := ⟨_, rfl⟩
  have HT : Hid (TwoB B w0 S R P0 b bo [.int .i64 0, .int .i64 nn, .int .i64 tt, .int .i64 vv] w1) := Lib.hid (by rw [hbo]; exact TwoM.boxed H.out hb1 hg1)
  rw [← hbo] at hb1 ⊢
  have cb0 : w1.cell? ⟨bo, 0, none⟩ = some (.int .i64 0) := hb1.cell rfl
  clear hb1 hg1 hs1 hbo
  have SC : Hid (∀ (L : Nat → Bool) (w : World), DoJ B w0 S R P0 b bo [.int .i64 0, .int .i64 nn, .int .i64 tt, .int .i64 vv] 7 L w → L 3 = false → Calls Try.prog 11 #[.pointer (some ⟨S, 0, none⟩), .int .i64 nn] w fun e w' => ∃ v, e = .returned v ∧ anyI.ok v w' ∧ True ∧ DoJ B w0 S R P0 b bo [.int .i64 0, .int .i64 nn, .int .i64 tt, .int .i64 vv] 7 (upd L 3) w') :=
    Lib.hid fun L w h _ => DoJ.set (is := isI) (by decide) (fun w P A c h hI => ⟨_, _, Start_calls w S P A c h hI nn, start_inv hI _, Same.start P _, ⟨_, rfl⟩⟩) L w h
  have MC : Hid (∀ (L : Nat → Bool) (w : World), DoJ B w0 S R P0 b bo [.int .i64 0, .int .i64 nn, .int .i64 tt, .int .i64 vv] 7 L w → L 7 = false → Calls Try.prog 39 #[.pointer (some ⟨R, 0, none⟩), .int .i64 nn] w fun e w' => ∃ v, e = .returned v ∧ anyI.ok v w' ∧ True ∧ DoJ B w0 S R P0 b bo [.int .i64 0, .int .i64 nn, .int .i64 tt, .int .i64 vv] 7 (upd L 7) w') :=
    Lib.hid fun L w h hL => DoJ.ref (is := isI) (fun w M A c h hI => rstart_calls w R M A c h b hI (by have := HB.out; omega) nn) L w h hL
  have HJ0 : Hid (DoJ B w0 S R P0 b bo [.int .i64 0, .int .i64 nn, .int .i64 tt, .int .i64 vv] 7 (fun _ => false) w1.drew) := Lib.hid (DoJ.start HT.out)
  go_wp2_with fail
  refine region_rel 10 (fun _ _ => True) (fun ix9 => ([.is (.pointer (some ⟨S, 0, none⟩)), .is (.pointer (some ⟨bo, 1, none⟩)), .is (.int .i64 nn), anyI, .is (.pointer (some ⟨R, 0, none⟩)), .is (.pointer (some ⟨bo, 1, none⟩)), .is (.int .i64 nn), anyI, anyB, anyB] : List (RD (fun _ _ => True))).getD ix9 (.is undef)) [some 11, some 12, some 13, some 14, some 15, some 16, some 17, some 18, some 19, some 6] (DoJ B w0 S R P0 b bo [.int .i64 0, .int .i64 nn, .int .i64 tt, .int .i64 vv] 7) (fun _ => trivial) (by kernel_rfl) (by kernel_rfl) (by kernel_rfl) (by kernel_rfl) rfl HJ0.out (fun ii hii => ?_) ?_
  · match ii, hii with
    | 0, _ => exact rstep_first (fun _ => trivial) rfl (rwant_none rfl) (DoJ.pure (by decide)) 0 (Or.inl rfl) (by kernel_rfl) (fun _ => rfl)
    | 1, _ => exact rstep_pure (fun _ => trivial) rfl (rwant_none rfl) (DoJ.pure (by decide)) (fun LL aa ww cc => ⟨.pointer (some ⟨bo, 1, none⟩), by have e0 : aa.tmps.getD 5 undef = .pointer (some ⟨bo, 0, none⟩) := (cc.orig 5 (by kernel_rfl)).trans rfl; simp only [execOp, Act.eval, e0]; go_simp, rfl⟩)
    | 2, _ => exact rstep_pure (fun _ => trivial) rfl (rwant_none rfl) (DoJ.pure (by decide)) (fun LL aa ww cc => ⟨.int .i64 nn, by have e0 : aa.tmps.getD 12 undef = .pointer (some ⟨bo, 1, none⟩) := cc.slot 1 12 (by kernel_rfl) rfl; obtain ⟨q0, q1, q2, q3⟩ := cc.world.box; simp only [execOp, Act.eval, e0]; go_simp, rfl⟩)
    | 3, _ => exact rstep_call rfl (rwant_none rfl) _ _ _ rfl (enters_of Try.func11 (by kernel_rfl) rfl) (fun LL aa ww cc => by have e0 : aa.tmps.getD 11 undef = .pointer (some ⟨S, 0, none⟩) := cc.slot 0 11 (by kernel_rfl) rfl; have e1 : aa.tmps.getD 13 undef = .int .i64 nn := cc.slot 2 13 (by kernel_rfl) rfl; simp only [List.map_toArray, List.map_cons, List.map_nil, Act.eval, e0, e1]; exact (SC.out) LL ww cc.world cc.fresh)
    | 4, _ => exact rstep_first (fun _ => trivial) rfl (rwant_none rfl) (DoJ.pure (by decide)) 1 (Or.inl rfl) (by kernel_rfl) (fun _ => rfl)
    | 5, _ => exact rstep_pure (fun _ => trivial) rfl (rwant_none rfl) (DoJ.pure (by decide)) (fun LL aa ww cc => ⟨.pointer (some ⟨bo, 1, none⟩), by have e0 : aa.tmps.getD 5 undef = .pointer (some ⟨bo, 0, none⟩) := (cc.orig 5 (by kernel_rfl)).trans rfl; simp only [execOp, Act.eval, e0]; go_simp, rfl⟩)
    | 6, _ => exact rstep_pure (fun _ => trivial) rfl (rwant_none rfl) (DoJ.pure (by decide)) (fun LL aa ww cc => ⟨.int .i64 nn, by have e0 : aa.tmps.getD 16 undef = .pointer (some ⟨bo, 1, none⟩) := cc.slot 5 16 (by kernel_rfl) rfl; obtain ⟨q0, q1, q2, q3⟩ := cc.world.box; simp only [execOp, Act.eval, e0]; go_simp, rfl⟩)
    | 7, _ => exact rstep_call rfl (rwant_none rfl) _ _ _ rfl (enters_of Try.func39 (by kernel_rfl) rfl) (fun LL aa ww cc => by have e0 : aa.tmps.getD 15 undef = .pointer (some ⟨R, 0, none⟩) := cc.slot 4 15 (by kernel_rfl) rfl; have e1 : aa.tmps.getD 17 undef = .int .i64 nn := cc.slot 6 17 (by kernel_rfl) rfl; simp only [List.map_toArray, List.map_cons, List.map_nil, Act.eval, e0, e1]; exact (MC.out) LL ww cc.world cc.fresh)
    | 8, _ => exact rstep_pure (fun _ => trivial) rfl (rwant_none rfl) (DoJ.pure (by decide)) (fun LL aa ww cc => by obtain ⟨z1, f1⟩ := cc.slot 3 14 (by kernel_rfl) rfl; obtain ⟨z2, f2⟩ := cc.slot 7 18 (by kernel_rfl) rfl; exact ⟨.bool (z1 == z2), by (simp only [execOp, Act.eval, f1, f2]; go_simp), ⟨_, rfl⟩⟩)
    | 9, _ => exact rstep_pure (fun _ => trivial) rfl (rwant_none rfl) (DoJ.pure (by decide)) (fun LL aa ww cc => by obtain ⟨z1, f1⟩ := cc.slot 8 19 (by kernel_rfl) rfl; exact ⟨.bool z1, by (simp only [execOp, Act.eval, f1]; go_simp), ⟨_, rfl⟩⟩)
    | n + 10, h => exact absurd h (by show ¬ (n + 10 < 10); omega)
  · intro L9 VV w5 hall hlen hJ5 hok
    match VV, hlen with
    | [v0, v1, v2, v3, v4, v5, v6, v7, v8, v9], _ =>
      obtain rfl : v0 = .pointer (some ⟨S, 0, none⟩) := hok 0 11 rfl
      obtain rfl : v1 = .pointer (some ⟨bo, 1, none⟩) := hok 1 12 rfl
      obtain rfl : v2 = .int .i64 nn := hok 2 13 rfl
      have p3 := hok 3 14 rfl
      obtain rfl : v4 = .pointer (some ⟨R, 0, none⟩) := hok 4 15 rfl
      obtain rfl : v5 = .pointer (some ⟨bo, 1, none⟩) := hok 5 16 rfl
      obtain rfl : v6 = .int .i64 nn := hok 6 17 rfl
      have p7 := hok 7 18 rfl
      have p8 := hok 8 19 rfl
      have p9 := hok 9 6 rfl
      obtain ⟨z9, rfl⟩ := p9
      have HE : Hid (TwoM B w0 S R P0 (b + 1) w5) := Lib.hid (by
        unfold DoJ at hJ5
        rw [if_pos (hall 7 (by decide))] at hJ5
        exact hJ5.bare)
      clear hok hall hJ5
      simp only [List.zip_cons_cons, List.zip_nil_right, putsL]
      go_simp
      go_wp2
      go_ret
      exact ⟨_, rfl, HE.out⟩
set_option maxRecDepth 100000 in
set_option maxHeartbeats 1000000 in
theorem do_stop (B : Nat) (w0 w : World) (S R : Nat) (P0 : PSet) (b : Nat) (h : TwoM B w0 S R P0 b w) (hb : b < 100) (ki nn tt vv : Int) (hk : ki = 1) :
    Calls Try.prog 36 #[.pointer (some ⟨S, 0, none⟩), .pointer (some ⟨R, 0, none⟩), .agg #[.int .i64 ki, .int .i64 nn, .int .i64 tt, .int .i64 vv]] w (RetTwo B w0 S R P0 (b + 1)) := by
  have H := Lib.hid h
  have HB := Lib.hid hb
  clear h hb
  subst hk
  go_enter Try.func36, Try.ntmps36
  go_wp2_with ((with_reducible show wpList _ _ _ (Oper.mk _ (Op.box 74 _) _ _ _ _ :: _) _ _); refine wpList_boxS (T := 74) rfl _ rfl [.int .i64 1, .int .i64 nn, .int .i64 tt, .int .i64 vv] rfl ?_)
  intro w1 hb1 hg1 hs1
  obtain ⟨bo, hbo⟩ : ∃ b, b = w.heap.size := ⟨_, rfl⟩
  have HT : Hid (TwoB B w0 S R P0 b bo [.int .i64 1, .int .i64 nn, .int .i64 tt, .int .i64 vv] w1) := Lib.hid (by rw [hbo]; exact TwoM.boxed H.out hb1 hg1)
  rw [← hbo] at hb1 ⊢
  have cb0 : w1.cell? ⟨bo, 0, none⟩ = some (.int .i64 1) := hb1.cell rfl
  clear hb1 hg1 hs1 hbo
  have SC : Hid (∀ (L : Nat → Bool) (w : World), DoJ B w0 S R P0 b bo [.int .i64 1, .int .i64 nn, .int .i64 tt, .int .i64 vv] 7 L w → L 3 = false → Calls Try.prog 22 #[.pointer (some ⟨S, 0, none⟩), .int .i64 nn] w fun e w' => ∃ v, e = .returned v ∧ anyI.ok v w' ∧ True ∧ DoJ B w0 S R P0 b bo [.int .i64 1, .int .i64 nn, .int .i64 tt, .int .i64 vv] 7 (upd L 3) w') :=
    Lib.hid fun L w h _ => DoJ.set (is := isI) (by decide) (fun w P A c h hI => ⟨_, _, Stop_calls w S P A c h hI nn, stop_inv hI _, Same.stop P _, ⟨_, rfl⟩⟩) L w h
  have MC : Hid (∀ (L : Nat → Bool) (w : World), DoJ B w0 S R P0 b bo [.int .i64 1, .int .i64 nn, .int .i64 tt, .int .i64 vv] 7 L w → L 7 = false → Calls Try.prog 40 #[.pointer (some ⟨R, 0, none⟩), .int .i64 nn] w fun e w' => ∃ v, e = .returned v ∧ anyI.ok v w' ∧ True ∧ DoJ B w0 S R P0 b bo [.int .i64 1, .int .i64 nn, .int .i64 tt, .int .i64 vv] 7 (upd L 7) w') :=
    Lib.hid fun L w h hL => DoJ.ref (is := isI) (fun w M A c h hI => rstop_calls w R M A c h b hI (by have := HB.out; omega) nn) L w h hL
  have HJ0 : Hid (DoJ B w0 S R P0 b bo [.int .i64 1, .int .i64 nn, .int .i64 tt, .int .i64 vv] 7 (fun _ => false) w1.drew) := Lib.hid (DoJ.start HT.out)
  go_wp2_with fail
  refine region_rel 10 (fun _ _ => True) (fun ix9 => ([.is (.pointer (some ⟨S, 0, none⟩)), .is (.pointer (some ⟨bo, 1, none⟩)), .is (.int .i64 nn), anyI, .is (.pointer (some ⟨R, 0, none⟩)), .is (.pointer (some ⟨bo, 1, none⟩)), .is (.int .i64 nn), anyI, anyB, anyB] : List (RD (fun _ _ => True))).getD ix9 (.is undef)) [some 22, some 23, some 24, some 25, some 26, some 27, some 28, some 29, some 30, some 6] (DoJ B w0 S R P0 b bo [.int .i64 1, .int .i64 nn, .int .i64 tt, .int .i64 vv] 7) (fun _ => trivial) (by kernel_rfl) (by kernel_rfl) (by kernel_rfl) (by kernel_rfl) rfl HJ0.out (fun ii hii => ?_) ?_
  · match ii, hii with
    | 0, _ => exact rstep_first (fun _ => trivial) rfl (rwant_none rfl) (DoJ.pure (by decide)) 0 (Or.inl rfl) (by kernel_rfl) (fun _ => rfl)
    | 1, _ => exact rstep_pure (fun _ => trivial) rfl (rwant_none rfl) (DoJ.pure (by decide)) (fun LL aa ww cc => ⟨.pointer (some ⟨bo, 1, none⟩), by have e0 : aa.tmps.getD 5 undef = .pointer (some ⟨bo, 0, none⟩) := (cc.orig 5 (by kernel_rfl)).trans rfl; simp only [execOp, Act.eval, e0]; go_simp, rfl⟩)
    | 2, _ => exact rstep_pure (fun _ => trivial) rfl (rwant_none rfl) (DoJ.pure (by decide)) (fun LL aa ww cc => ⟨.int .i64 nn, by have e0 : aa.tmps.getD 23 undef = .pointer (some ⟨bo, 1, none⟩) := cc.slot 1 23 (by kernel_rfl) rfl; obtain ⟨q0, q1, q2, q3⟩ := cc.world.box; simp only [execOp, Act.eval, e0]; go_simp, rfl⟩)
    | 3, _ => exact rstep_call rfl (rwant_none rfl) _ _ _ rfl (enters_of Try.func22 (by kernel_rfl) rfl) (fun LL aa ww cc => by have e0 : aa.tmps.getD 22 undef = .pointer (some ⟨S, 0, none⟩) := cc.slot 0 22 (by kernel_rfl) rfl; have e1 : aa.tmps.getD 24 undef = .int .i64 nn := cc.slot 2 24 (by kernel_rfl) rfl; simp only [List.map_toArray, List.map_cons, List.map_nil, Act.eval, e0, e1]; exact (SC.out) LL ww cc.world cc.fresh)
    | 4, _ => exact rstep_first (fun _ => trivial) rfl (rwant_none rfl) (DoJ.pure (by decide)) 1 (Or.inl rfl) (by kernel_rfl) (fun _ => rfl)
    | 5, _ => exact rstep_pure (fun _ => trivial) rfl (rwant_none rfl) (DoJ.pure (by decide)) (fun LL aa ww cc => ⟨.pointer (some ⟨bo, 1, none⟩), by have e0 : aa.tmps.getD 5 undef = .pointer (some ⟨bo, 0, none⟩) := (cc.orig 5 (by kernel_rfl)).trans rfl; simp only [execOp, Act.eval, e0]; go_simp, rfl⟩)
    | 6, _ => exact rstep_pure (fun _ => trivial) rfl (rwant_none rfl) (DoJ.pure (by decide)) (fun LL aa ww cc => ⟨.int .i64 nn, by have e0 : aa.tmps.getD 27 undef = .pointer (some ⟨bo, 1, none⟩) := cc.slot 5 27 (by kernel_rfl) rfl; obtain ⟨q0, q1, q2, q3⟩ := cc.world.box; simp only [execOp, Act.eval, e0]; go_simp, rfl⟩)
    | 7, _ => exact rstep_call rfl (rwant_none rfl) _ _ _ rfl (enters_of Try.func40 (by kernel_rfl) rfl) (fun LL aa ww cc => by have e0 : aa.tmps.getD 26 undef = .pointer (some ⟨R, 0, none⟩) := cc.slot 4 26 (by kernel_rfl) rfl; have e1 : aa.tmps.getD 28 undef = .int .i64 nn := cc.slot 6 28 (by kernel_rfl) rfl; simp only [List.map_toArray, List.map_cons, List.map_nil, Act.eval, e0, e1]; exact (MC.out) LL ww cc.world cc.fresh)
    | 8, _ => exact rstep_pure (fun _ => trivial) rfl (rwant_none rfl) (DoJ.pure (by decide)) (fun LL aa ww cc => by obtain ⟨z1, f1⟩ := cc.slot 3 25 (by kernel_rfl) rfl; obtain ⟨z2, f2⟩ := cc.slot 7 29 (by kernel_rfl) rfl; exact ⟨.bool (z1 == z2), by (simp only [execOp, Act.eval, f1, f2]; go_simp), ⟨_, rfl⟩⟩)
    | 9, _ => exact rstep_pure (fun _ => trivial) rfl (rwant_none rfl) (DoJ.pure (by decide)) (fun LL aa ww cc => by obtain ⟨z1, f1⟩ := cc.slot 8 30 (by kernel_rfl) rfl; exact ⟨.bool z1, by (simp only [execOp, Act.eval, f1]; go_simp), ⟨_, rfl⟩⟩)
    | n + 10, h => exact absurd h (by show ¬ (n + 10 < 10); omega)
  · intro L9 VV w5 hall hlen hJ5 hok
    match VV, hlen with
    | [v0, v1, v2, v3, v4, v5, v6, v7, v8, v9], _ =>
      obtain rfl : v0 = .pointer (some ⟨S, 0, none⟩) := hok 0 22 rfl
      obtain rfl : v1 = .pointer (some ⟨bo, 1, none⟩) := hok 1 23 rfl
      obtain rfl : v2 = .int .i64 nn := hok 2 24 rfl
      have p3 := hok 3 25 rfl
      obtain rfl : v4 = .pointer (some ⟨R, 0, none⟩) := hok 4 26 rfl
      obtain rfl : v5 = .pointer (some ⟨bo, 1, none⟩) := hok 5 27 rfl
      obtain rfl : v6 = .int .i64 nn := hok 6 28 rfl
      have p7 := hok 7 29 rfl
      have p8 := hok 8 30 rfl
      have p9 := hok 9 6 rfl
      obtain ⟨z9, rfl⟩ := p9
      have HE : Hid (TwoM B w0 S R P0 (b + 1) w5) := Lib.hid (by
        unfold DoJ at hJ5
        rw [if_pos (hall 7 (by decide))] at hJ5
        exact hJ5.bare)
      clear hok hall hJ5
      simp only [List.zip_cons_cons, List.zip_nil_right, putsL]
      go_simp
      go_wp2
      go_ret
      exact ⟨_, rfl, HE.out⟩
set_option maxRecDepth 100000 in
set_option maxHeartbeats 1000000 in
theorem do_sleep (B : Nat) (w0 w : World) (S R : Nat) (P0 : PSet) (b : Nat) (h : TwoM B w0 S R P0 b w) (hb : b < 100) (ki nn tt vv : Int) (hk : ki = 2) :
    Calls Try.prog 36 #[.pointer (some ⟨S, 0, none⟩), .pointer (some ⟨R, 0, none⟩), .agg #[.int .i64 ki, .int .i64 nn, .int .i64 tt, .int .i64 vv]] w (RetTwo B w0 S R P0 (b + 1)) := by
  have H := Lib.hid h
  have HB := Lib.hid hb
  clear h hb
  subst hk
  go_enter Try.func36, Try.ntmps36
  go_wp2_with ((with_reducible show wpList _ _ _ (Oper.mk _ (Op.box 74 _) _ _ _ _ :: _) _ _); refine wpList_boxS (T := 74) rfl _ rfl [.int .i64 2, .int .i64 nn, .int .i64 tt, .int .i64 vv] rfl ?_)
  intro w1 hb1 hg1 hs1
  obtain ⟨bo, hbo⟩ : ∃ b, b = w.heap.size := ⟨_, rfl⟩
  have HT : Hid (TwoB B w0 S R P0 b bo [.int .i64 2, .int .i64 nn, .int .i64 tt, .int .i64 vv] w1) := Lib.hid (by rw [hbo]; exact TwoM.boxed H.out hb1 hg1)
  rw [← hbo] at hb1 ⊢
  have cb0 : w1.cell? ⟨bo, 0, none⟩ = some (.int .i64 2) := hb1.cell rfl
  clear hb1 hg1 hs1 hbo
  have SC : Hid (∀ (L : Nat → Bool) (w : World), DoJ B w0 S R P0 b bo [.int .i64 2, .int .i64 nn, .int .i64 tt, .int .i64 vv] 7 L w → L 3 = false → Calls Try.prog 20 #[.pointer (some ⟨S, 0, none⟩), .int .i64 tt] w fun e w' => ∃ v, e = .returned v ∧ anyO.ok v w' ∧ True ∧ DoJ B w0 S R P0 b bo [.int .i64 2, .int .i64 nn, .int .i64 tt, .int .i64 vv] 7 (upd L 3) w') :=
    Lib.hid fun L w h _ => DoJ.set (is := isO) (by decide) (fun w P A c h hI => ⟨_, _, Sleep_calls w S P A c h hI tt, sleep_inv hI _, Same.sleep P _, ⟨_, rfl⟩⟩) L w h
  have MC : Hid (∀ (L : Nat → Bool) (w : World), DoJ B w0 S R P0 b bo [.int .i64 2, .int .i64 nn, .int .i64 tt, .int .i64 vv] 7 L w → L 7 = false → Calls Try.prog 41 #[.pointer (some ⟨R, 0, none⟩), .int .i64 tt] w fun e w' => ∃ v, e = .returned v ∧ anyO.ok v w' ∧ True ∧ DoJ B w0 S R P0 b bo [.int .i64 2, .int .i64 nn, .int .i64 tt, .int .i64 vv] 7 (upd L 7) w') :=
    Lib.hid fun L w h hL => DoJ.ref (is := isO) (fun w M A c h hI => rsleep_calls w R M A c h b hI (by have := HB.out; omega) tt) L w h hL
  have HJ0 : Hid (DoJ B w0 S R P0 b bo [.int .i64 2, .int .i64 nn, .int .i64 tt, .int .i64 vv] 7 (fun _ => false) w1.drew) := Lib.hid (DoJ.start HT.out)
  go_wp2_with fail
  refine region_rel 10 (fun _ _ => True) (fun ix9 => ([.is (.pointer (some ⟨S, 0, none⟩)), .is (.pointer (some ⟨bo, 2, none⟩)), .is (.int .i64 tt), anyO, .is (.pointer (some ⟨R, 0, none⟩)), .is (.pointer (some ⟨bo, 2, none⟩)), .is (.int .i64 tt), anyO, anyB, anyB] : List (RD (fun _ _ => True))).getD ix9 (.is undef)) [some 33, some 34, some 35, some 36, some 37, some 38, some 39, some 40, some 41, some 6] (DoJ B w0 S R P0 b bo [.int .i64 2, .int .i64 nn, .int .i64 tt, .int .i64 vv] 7) (fun _ => trivial) (by kernel_rfl) (by kernel_rfl) (by kernel_rfl) (by kernel_rfl) rfl HJ0.out (fun ii hii => ?_) ?_
  · match ii, hii with
    | 0, _ => exact rstep_first (fun _ => trivial) rfl (rwant_none rfl) (DoJ.pure (by decide)) 0 (Or.inl rfl) (by kernel_rfl) (fun _ => rfl)
    | 1, _ => exact rstep_pure (fun _ => trivial) rfl (rwant_none rfl) (DoJ.pure (by decide)) (fun LL aa ww cc => ⟨.pointer (some ⟨bo, 2, none⟩), by have e0 : aa.tmps.getD 5 undef = .pointer (some ⟨bo, 0, none⟩) := (cc.orig 5 (by kernel_rfl)).trans rfl; simp only [execOp, Act.eval, e0]; go_simp, rfl⟩)
    | 2, _ => exact rstep_pure (fun _ => trivial) rfl (rwant_none rfl) (DoJ.pure (by decide)) (fun LL aa ww cc => ⟨.int .i64 tt, by have e0 : aa.tmps.getD 34 undef = .pointer (some ⟨bo, 2, none⟩) := cc.slot 1 34 (by kernel_rfl) rfl; obtain ⟨q0, q1, q2, q3⟩ := cc.world.box; simp only [execOp, Act.eval, e0]; go_simp, rfl⟩)
    | 3, _ => exact rstep_call rfl (rwant_none rfl) _ _ _ rfl (enters_of Try.func20 (by kernel_rfl) rfl) (fun LL aa ww cc => by have e0 : aa.tmps.getD 33 undef = .pointer (some ⟨S, 0, none⟩) := cc.slot 0 33 (by kernel_rfl) rfl; have e1 : aa.tmps.getD 35 undef = .int .i64 tt := cc.slot 2 35 (by kernel_rfl) rfl; simp only [List.map_toArray, List.map_cons, List.map_nil, Act.eval, e0, e1]; exact (SC.out) LL ww cc.world cc.fresh)
    | 4, _ => exact rstep_first (fun _ => trivial) rfl (rwant_none rfl) (DoJ.pure (by decide)) 1 (Or.inl rfl) (by kernel_rfl) (fun _ => rfl)
    | 5, _ => exact rstep_pure (fun _ => trivial) rfl (rwant_none rfl) (DoJ.pure (by decide)) (fun LL aa ww cc => ⟨.pointer (some ⟨bo, 2, none⟩), by have e0 : aa.tmps.getD 5 undef = .pointer (some ⟨bo, 0, none⟩) := (cc.orig 5 (by kernel_rfl)).trans rfl; simp only [execOp, Act.eval, e0]; go_simp, rfl⟩)
    | 6, _ => exact rstep_pure (fun _ => trivial) rfl (rwant_none rfl) (DoJ.pure (by decide)) (fun LL aa ww cc => ⟨.int .i64 tt, by have e0 : aa.tmps.getD 38 undef = .pointer (some ⟨bo, 2, none⟩) := cc.slot 5 38 (by kernel_rfl) rfl; obtain ⟨q0, q1, q2, q3⟩ := cc.world.box; simp only [execOp, Act.eval, e0]; go_simp, rfl⟩)
    | 7, _ => exact rstep_call rfl (rwant_none rfl) _ _ _ rfl (enters_of Try.func41 (by kernel_rfl) rfl) (fun LL aa ww cc => by have e0 : aa.tmps.getD 37 undef = .pointer (some ⟨R, 0, none⟩) := cc.slot 4 37 (by kernel_rfl) rfl; have e1 : aa.tmps.getD 39 undef = .int .i64 tt := cc.slot 6 39 (by kernel_rfl) rfl; simp only [List.map_toArray, List.map_cons, List.map_nil, Act.eval, e0, e1]; exact (MC.out) LL ww cc.world cc.fresh)
    | 8, _ => exact rstep_eqO (fun _ => trivial) rfl (rwant_none rfl) (DoJ.pure (by decide)) 36 40 rfl (fun LL aa ww cc => cc.slot 3 36 (by kernel_rfl) rfl) (fun LL aa ww cc => cc.slot 7 40 (by kernel_rfl) rfl) rfl
    | 9, _ => exact rstep_pure (fun _ => trivial) rfl (rwant_none rfl) (DoJ.pure (by decide)) (fun LL aa ww cc => by obtain ⟨z1, f1⟩ := cc.slot 8 41 (by kernel_rfl) rfl; exact ⟨.bool z1, by (simp only [execOp, Act.eval, f1]; go_simp), ⟨_, rfl⟩⟩)
    | n + 10, h => exact absurd h (by show ¬ (n + 10 < 10); omega)
  · intro L9 VV w5 hall hlen hJ5 hok
    match VV, hlen with
    | [v0, v1, v2, v3, v4, v5, v6, v7, v8, v9], _ =>
      obtain rfl : v0 = .pointer (some ⟨S, 0, none⟩) := hok 0 33 rfl
      obtain rfl : v1 = .pointer (some ⟨bo, 2, none⟩) := hok 1 34 rfl
      obtain rfl : v2 = .int .i64 tt := hok 2 35 rfl
      have p3 := hok 3 36 rfl
      obtain rfl : v4 = .pointer (some ⟨R, 0, none⟩) := hok 4 37 rfl
      obtain rfl : v5 = .pointer (some ⟨bo, 2, none⟩) := hok 5 38 rfl
      obtain rfl : v6 = .int .i64 tt := hok 6 39 rfl
      have p7 := hok 7 40 rfl
      have p8 := hok 8 41 rfl
      have p9 := hok 9 6 rfl
      obtain ⟨z9, rfl⟩ := p9
      have HE : Hid (TwoM B w0 S R P0 (b + 1) w5) := Lib.hid (by
        unfold DoJ at hJ5
        rw [if_pos (hall 7 (by decide))] at hJ5
        exact hJ5.bare)
      clear hok hall hJ5
      simp only [List.zip_cons_cons, List.zip_nil_right, putsL]
      go_simp
      go_wp2
      go_ret
      exact ⟨_, rfl, HE.out⟩
set_option maxRecDepth 100000 in
set_option maxHeartbeats 1000000 in
theorem do_take3 (B : Nat) (w0 w : World) (S R : Nat) (P0 : PSet) (b : Nat) (h : TwoM B w0 S R P0 b w) (hb : b < 100) (ki nn tt vv : Int) (hk : ki = 3) :
    Calls Try.prog 36 #[.pointer (some ⟨S, 0, none⟩), .pointer (some ⟨R, 0, none⟩), .agg #[.int .i64 ki, .int .i64 nn, .int .i64 tt, .int .i64 vv]] w (RetTwo B w0 S R P0 (b + 1)) := by
  have H := Lib.hid h
  have HB := Lib.hid hb
  clear h hb
  subst hk
  go_enter Try.func36, Try.ntmps36
  go_wp2_with ((with_reducible show wpList _ _ _ (Oper.mk _ (Op.box 74 _) _ _ _ _ :: _) _ _); refine wpList_boxS (T := 74) rfl _ rfl [.int .i64 3, .int .i64 nn, .int .i64 tt, .int .i64 vv] rfl ?_)
  intro w1 hb1 hg1 hs1
  obtain ⟨bo, hbo⟩ : ∃ b, b = w.heap.size := ⟨_, rfl⟩
  have HT : Hid (TwoB B w0 S R P0 b bo [.int .i64 3, .int .i64 nn, .int .i64 tt, .int .i64 vv] w1) := Lib.hid (by rw [hbo]; exact TwoM.boxed H.out hb1 hg1)
  rw [← hbo] at hb1 ⊢
  have cb0 : w1.cell? ⟨bo, 0, none⟩ = some (.int .i64 3) := hb1.cell rfl
  clear hb1 hg1 hs1 hbo
  have SC : Hid (∀ (L : Nat → Bool) (w : World), DoJ B w0 S R P0 b bo [.int .i64 3, .int .i64 nn, .int .i64 tt, .int .i64 vv] 11 L w → L 5 = false → Calls Try.prog 17 #[.pointer (some ⟨S, 0, none⟩), .int .i64 nn, .int .i64 tt] w fun e w' => ∃ v, e = .returned v ∧ anyO.ok v w' ∧ True ∧ DoJ B w0 S R P0 b bo [.int .i64 3, .int .i64 nn, .int .i64 tt, .int .i64 vv] 11 (upd L 5) w') :=
    Lib.hid fun L w h _ => DoJ.set (is := isO) (by decide) (fun w P A c h hI => ⟨_, _, Take_calls w S P A c h hI nn tt, take_inv hI _ _, Same.take P _ _, ⟨_, rfl⟩⟩) L w h
  have MC : Hid (∀ (L : Nat → Bool) (w : World), DoJ B w0 S R P0 b bo [.int .i64 3, .int .i64 nn, .int .i64 tt, .int .i64 vv] 11 L w → L 11 = false → Calls Try.prog 42 #[.pointer (some ⟨R, 0, none⟩), .int .i64 nn, .int .i64 tt] w fun e w' => ∃ v, e = .returned v ∧ anyO.ok v w' ∧ True ∧ DoJ B w0 S R P0 b bo [.int .i64 3, .int .i64 nn, .int .i64 tt, .int .i64 vv] 11 (upd L 11) w') :=
    Lib.hid fun L w h hL => DoJ.ref (is := isO) (fun w M A c h hI => rtake_calls w R M A c h b hI (by have := HB.out; omega) nn tt) L w h hL
  have HJ0 : Hid (DoJ B w0 S R P0 b bo [.int .i64 3, .int .i64 nn, .int .i64 tt, .int .i64 vv] 11 (fun _ => false) w1.drew) := Lib.hid (DoJ.start HT.out)
  go_wp2_with fail
  refine region_rel 14 (fun _ _ => True) (fun ix9 => ([.is (.pointer (some ⟨S, 0, none⟩)), .is (.pointer (some ⟨bo, 1, none⟩)), .is (.int .i64 nn), .is (.pointer (some ⟨bo, 2, none⟩)), .is (.int .i64 tt), anyO, .is (.pointer (some ⟨R, 0, none⟩)), .is (.pointer (some ⟨bo, 1, none⟩)), .is (.int .i64 nn), .is (.pointer (some ⟨bo, 2, none⟩)), .is (.int .i64 tt), anyO, anyB, anyB] : List (RD (fun _ _ => True))).getD ix9 (.is undef)) [some 45, some 46, some 47, some 48, some 49, some 50, some 51, some 52, some 53, some 54, some 55, some 56, some 57, some 6] (DoJ B w0 S R P0 b bo [.int .i64 3, .int .i64 nn, .int .i64 tt, .int .i64 vv] 11) (fun _ => trivial) (by kernel_rfl) (by kernel_rfl) (by kernel_rfl) (by kernel_rfl) rfl HJ0.out (fun ii hii => ?_) ?_
  · match ii, hii with
    | 0, _ => exact rstep_first (fun _ => trivial) rfl (rwant_none rfl) (DoJ.pure (by decide)) 0 (Or.inl rfl) (by kernel_rfl) (fun _ => rfl)
    | 1, _ => exact rstep_pure (fun _ => trivial) rfl (rwant_none rfl) (DoJ.pure (by decide)) (fun LL aa ww cc => ⟨.pointer (some ⟨bo, 1, none⟩), by have e0 : aa.tmps.getD 5 undef = .pointer (some ⟨bo, 0, none⟩) := (cc.orig 5 (by kernel_rfl)).trans rfl; simp only [execOp, Act.eval, e0]; go_simp, rfl⟩)
    | 2, _ => exact rstep_pure (fun _ => trivial) rfl (rwant_none rfl) (DoJ.pure (by decide)) (fun LL aa ww cc => ⟨.int .i64 nn, by have e0 : aa.tmps.getD 46 undef = .pointer (some ⟨bo, 1, none⟩) := cc.slot 1 46 (by kernel_rfl) rfl; obtain ⟨q0, q1, q2, q3⟩ := cc.world.box; simp only [execOp, Act.eval, e0]; go_simp, rfl⟩)
    | 3, _ => exact rstep_pure (fun _ => trivial) rfl (rwant_none rfl) (DoJ.pure (by decide)) (fun LL aa ww cc => ⟨.pointer (some ⟨bo, 2, none⟩), by have e0 : aa.tmps.getD 5 undef = .pointer (some ⟨bo, 0, none⟩) := (cc.orig 5 (by kernel_rfl)).trans rfl; simp only [execOp, Act.eval, e0]; go_simp, rfl⟩)
    | 4, _ => exact rstep_pure (fun _ => trivial) rfl (rwant_none rfl) (DoJ.pure (by decide)) (fun LL aa ww cc => ⟨.int .i64 tt, by have e0 : aa.tmps.getD 48 undef = .pointer (some ⟨bo, 2, none⟩) := cc.slot 3 48 (by kernel_rfl) rfl; obtain ⟨q0, q1, q2, q3⟩ := cc.world.box; simp only [execOp, Act.eval, e0]; go_simp, rfl⟩)
    | 5, _ => exact rstep_call rfl (rwant_none rfl) _ _ _ rfl (enters_of Try.func17 (by kernel_rfl) rfl) (fun LL aa ww cc => by have e0 : aa.tmps.getD 45 undef = .pointer (some ⟨S, 0, none⟩) := cc.slot 0 45 (by kernel_rfl) rfl; have e1 : aa.tmps.getD 47 undef = .int .i64 nn := cc.slot 2 47 (by kernel_rfl) rfl; have e2 : aa.tmps.getD 49 undef = .int .i64 tt := cc.slot 4 49 (by kernel_rfl) rfl; simp only [List.map_toArray, List.map_cons, List.map_nil, Act.eval, e0, e1, e2]; exact (SC.out) LL ww cc.world cc.fresh)
    | 6, _ => exact rstep_first (fun _ => trivial) rfl (rwant_none rfl) (DoJ.pure (by decide)) 1 (Or.inl rfl) (by kernel_rfl) (fun _ => rfl)
    | 7, _ => exact rstep_pure (fun _ => trivial) rfl (rwant_none rfl) (DoJ.pure (by decide)) (fun LL aa ww cc => ⟨.pointer (some ⟨bo, 1, none⟩), by have e0 : aa.tmps.getD 5 undef = .pointer (some ⟨bo, 0, none⟩) := (cc.orig 5 (by kernel_rfl)).trans rfl; simp only [execOp, Act.eval, e0]; go_simp, rfl⟩)
    | 8, _ => exact rstep_pure (fun _ => trivial) rfl (rwant_none rfl) (DoJ.pure (by decide)) (fun LL aa ww cc => ⟨.int .i64 nn, by have e0 : aa.tmps.getD 52 undef = .pointer (some ⟨bo, 1, none⟩) := cc.slot 7 52 (by kernel_rfl) rfl; obtain ⟨q0, q1, q2, q3⟩ := cc.world.box; simp only [execOp, Act.eval, e0]; go_simp, rfl⟩)
    | 9, _ => exact rstep_pure (fun _ => trivial) rfl (rwant_none rfl) (DoJ.pure (by decide)) (fun LL aa ww cc => ⟨.pointer (some ⟨bo, 2, none⟩), by have e0 : aa.tmps.getD 5 undef = .pointer (some ⟨bo, 0, none⟩) := (cc.orig 5 (by kernel_rfl)).trans rfl; simp only [execOp, Act.eval, e0]; go_simp, rfl⟩)
    | 10, _ => exact rstep_pure (fun _ => trivial) rfl (rwant_none rfl) (DoJ.pure (by decide)) (fun LL aa ww cc => ⟨.int .i64 tt, by have e0 : aa.tmps.getD 54 undef = .pointer (some ⟨bo, 2, none⟩) := cc.slot 9 54 (by kernel_rfl) rfl; obtain ⟨q0, q1, q2, q3⟩ := cc.world.box; simp only [execOp, Act.eval, e0]; go_simp, rfl⟩)
    | 11, _ => exact rstep_call rfl (rwant_none rfl) _ _ _ rfl (enters_of Try.func42 (by kernel_rfl) rfl) (fun LL aa ww cc => by have e0 : aa.tmps.getD 51 undef = .pointer (some ⟨R, 0, none⟩) := cc.slot 6 51 (by kernel_rfl) rfl; have e1 : aa.tmps.getD 53 undef = .int .i64 nn := cc.slot 8 53 (by kernel_rfl) rfl; have e2 : aa.tmps.getD 55 undef = .int .i64 tt := cc.slot 10 55 (by kernel_rfl) rfl; simp only [List.map_toArray, List.map_cons, List.map_nil, Act.eval, e0, e1, e2]; exact (MC.out) LL ww cc.world cc.fresh)
    | 12, _ => exact rstep_eqO (fun _ => trivial) rfl (rwant_none rfl) (DoJ.pure (by decide)) 50 56 rfl (fun LL aa ww cc => cc.slot 5 50 (by kernel_rfl) rfl) (fun LL aa ww cc => cc.slot 11 56 (by kernel_rfl) rfl) rfl
    | 13, _ => exact rstep_pure (fun _ => trivial) rfl (rwant_none rfl) (DoJ.pure (by decide)) (fun LL aa ww cc => by obtain ⟨z1, f1⟩ := cc.slot 12 57 (by kernel_rfl) rfl; exact ⟨.bool z1, by (simp only [execOp, Act.eval, f1]; go_simp), ⟨_, rfl⟩⟩)
    | n + 14, h => exact absurd h (by show ¬ (n + 14 < 14); omega)
  · intro L9 VV w5 hall hlen hJ5 hok
    match VV, hlen with
    | [v0, v1, v2, v3, v4, v5, v6, v7, v8, v9, v10, v11, v12, v13], _ =>
      obtain rfl : v0 = .pointer (some ⟨S, 0, none⟩) := hok 0 45 rfl
      obtain rfl : v1 = .pointer (some ⟨bo, 1, none⟩) := hok 1 46 rfl
      obtain rfl : v2 = .int .i64 nn := hok 2 47 rfl
      obtain rfl : v3 = .pointer (some ⟨bo, 2, none⟩) := hok 3 48 rfl
      obtain rfl : v4 = .int .i64 tt := hok 4 49 rfl
      have p5 := hok 5 50 rfl
      obtain rfl : v6 = .pointer (some ⟨R, 0, none⟩) := hok 6 51 rfl
      obtain rfl : v7 = .pointer (some ⟨bo, 1, none⟩) := hok 7 52 rfl
      obtain rfl : v8 = .int .i64 nn := hok 8 53 rfl
      obtain rfl : v9 = .pointer (some ⟨bo, 2, none⟩) := hok 9 54 rfl
      obtain rfl : v10 = .int .i64 tt := hok 10 55 rfl
      have p11 := hok 11 56 rfl
      have p12 := hok 12 57 rfl
      have p13 := hok 13 6 rfl
      obtain ⟨z9, rfl⟩ := p13
      have HE : Hid (TwoM B w0 S R P0 (b + 1) w5) := Lib.hid (by
        unfold DoJ at hJ5
        rw [if_pos (hall 11 (by decide))] at hJ5
        exact hJ5.bare)
      clear hok hall hJ5
      simp only [List.zip_cons_cons, List.zip_nil_right, putsL]
      go_simp
      go_wp2
      go_ret
      exact ⟨_, rfl, HE.out⟩
set_option maxRecDepth 100000 in
set_option maxHeartbeats 1000000 in
theorem do_take4 (B : Nat) (w0 w : World) (S R : Nat) (P0 : PSet) (b : Nat) (h : TwoM B w0 S R P0 b w) (hb : b < 100) (ki nn tt vv : Int) (hk : ki = 4) :
    Calls Try.prog 36 #[.pointer (some ⟨S, 0, none⟩), .pointer (some ⟨R, 0, none⟩), .agg #[.int .i64 ki, .int .i64 nn, .int .i64 tt, .int .i64 vv]] w (RetTwo B w0 S R P0 (b + 1)) := by
  have H := Lib.hid h
  have HB := Lib.hid hb
  clear h hb
  subst hk
  go_enter Try.func36, Try.ntmps36
  go_wp2_with ((with_reducible show wpList _ _ _ (Oper.mk _ (Op.box 74 _) _ _ _ _ :: _) _ _); refine wpList_boxS (T := 74) rfl _ rfl [.int .i64 4, .int .i64 nn, .int .i64 tt, .int .i64 vv] rfl ?_)
  intro w1 hb1 hg1 hs1
  obtain ⟨bo, hbo⟩ : ∃ b, b = w.heap.size := ⟨_, rfl⟩
  have HT : Hid (TwoB B w0 S R P0 b bo [.int .i64 4, .int .i64 nn, .int .i64 tt, .int .i64 vv] w1) := Lib.hid (by rw [hbo]; exact TwoM.boxed H.out hb1 hg1)
  rw [← hbo] at hb1 ⊢
  have cb0 : w1.cell? ⟨bo, 0, none⟩ = some (.int .i64 4) := hb1.cell rfl
  clear hb1 hg1 hs1 hbo
  have SC : Hid (∀ (L : Nat → Bool) (w : World), DoJ B w0 S R P0 b bo [.int .i64 4, .int .i64 nn, .int .i64 tt, .int .i64 vv] 11 L w → L 5 = false → Calls Try.prog 17 #[.pointer (some ⟨S, 0, none⟩), .int .i64 nn, .int .i64 tt] w fun e w' => ∃ v, e = .returned v ∧ anyO.ok v w' ∧ True ∧ DoJ B w0 S R P0 b bo [.int .i64 4, .int .i64 nn, .int .i64 tt, .int .i64 vv] 11 (upd L 5) w') :=
    Lib.hid fun L w h _ => DoJ.set (is := isO) (by decide) (fun w P A c h hI => ⟨_, _, Take_calls w S P A c h hI nn tt, take_inv hI _ _, Same.take P _ _, ⟨_, rfl⟩⟩) L w h
  have MC : Hid (∀ (L : Nat → Bool) (w : World), DoJ B w0 S R P0 b bo [.int .i64 4, .int .i64 nn, .int .i64 tt, .int .i64 vv] 11 L w → L 11 = false → Calls Try.prog 42 #[.pointer (some ⟨R, 0, none⟩), .int .i64 nn, .int .i64 tt] w fun e w' => ∃ v, e = .returned v ∧ anyO.ok v w' ∧ True ∧ DoJ B w0 S R P0 b bo [.int .i64 4, .int .i64 nn, .int .i64 tt, .int .i64 vv] 11 (upd L 11) w') :=
    Lib.hid fun L w h hL => DoJ.ref (is := isO) (fun w M A c h hI => rtake_calls w R M A c h b hI (by have := HB.out; omega) nn tt) L w h hL
  have HJ0 : Hid (DoJ B w0 S R P0 b bo [.int .i64 4, .int .i64 nn, .int .i64 tt, .int .i64 vv] 11 (fun _ => false) w1.drew) := Lib.hid (DoJ.start HT.out)
  go_wp2_with fail
  refine region_rel 14 (fun _ _ => True) (fun ix9 => ([.is (.pointer (some ⟨S, 0, none⟩)), .is (.pointer (some ⟨bo, 1, none⟩)), .is (.int .i64 nn), .is (.pointer (some ⟨bo, 2, none⟩)), .is (.int .i64 tt), anyO, .is (.pointer (some ⟨R, 0, none⟩)), .is (.pointer (some ⟨bo, 1, none⟩)), .is (.int .i64 nn), .is (.pointer (some ⟨bo, 2, none⟩)), .is (.int .i64 tt), anyO, anyB, anyB] : List (RD (fun _ _ => True))).getD ix9 (.is undef)) [some 45, some 46, some 47, some 48, some 49, some 50, some 51, some 52, some 53, some 54, some 55, some 56, some 57, some 6] (DoJ B w0 S R P0 b bo [.int .i64 4, .int .i64 nn, .int .i64 tt, .int .i64 vv] 11) (fun _ => trivial) (by kernel_rfl) (by kernel_rfl) (by kernel_rfl) (by kernel_rfl) rfl HJ0.out (fun ii hii => ?_) ?_
  · match ii, hii with
    | 0, _ => exact rstep_first (fun _ => trivial) rfl (rwant_none rfl) (DoJ.pure (by decide)) 0 (Or.inl rfl) (by kernel_rfl) (fun _ => rfl)
    | 1, _ => exact rstep_pure (fun _ => trivial) rfl (rwant_none rfl) (DoJ.pure (by decide)) (fun LL aa ww cc => ⟨.pointer (some ⟨bo, 1, none⟩), by have e0 : aa.tmps.getD 5 undef = .pointer (some ⟨bo, 0, none⟩) := (cc.orig 5 (by kernel_rfl)).trans rfl; simp only [execOp, Act.eval, e0]; go_simp, rfl⟩)
    | 2, _ => exact rstep_pure (fun _ => trivial) rfl (rwant_none rfl) (DoJ.pure (by decide)) (fun LL aa ww cc => ⟨.int .i64 nn, by have e0 : aa.tmps.getD 46 undef = .pointer (some ⟨bo, 1, none⟩) := cc.slot 1 46 (by kernel_rfl) rfl; obtain ⟨q0, q1, q2, q3⟩ := cc.world.box; simp only [execOp, Act.eval, e0]; go_simp, rfl⟩)
    | 3, _ => exact rstep_pure (fun _ => trivial) rfl (rwant_none rfl) (DoJ.pure (by decide)) (fun LL aa ww cc => ⟨.pointer (some ⟨bo, 2, none⟩), by have e0 : aa.tmps.getD 5 undef = .pointer (some ⟨bo, 0, none⟩) := (cc.orig 5 (by kernel_rfl)).trans rfl; simp only [execOp, Act.eval, e0]; go_simp, rfl⟩)
    | 4, _ => exact rstep_pure (fun _ => trivial) rfl (rwant_none rfl) (DoJ.pure (by decide)) (fun LL aa ww cc => ⟨.int .i64 tt, by have e0 : aa.tmps.getD 48 undef = .pointer (some ⟨bo, 2, none⟩) := cc.slot 3 48 (by kernel_rfl) rfl; obtain ⟨q0, q1, q2, q3⟩ := cc.world.box; simp only [execOp, Act.eval, e0]; go_simp, rfl⟩)
    | 5, _ => exact rstep_call rfl (rwant_none rfl) _ _ _ rfl (enters_of Try.func17 (by kernel_rfl) rfl) (fun LL aa ww cc => by have e0 : aa.tmps.getD 45 undef = .pointer (some ⟨S, 0, none⟩) := cc.slot 0 45 (by kernel_rfl) rfl; have e1 : aa.tmps.getD 47 undef = .int .i64 nn := cc.slot 2 47 (by kernel_rfl) rfl; have e2 : aa.tmps.getD 49 undef = .int .i64 tt := cc.slot 4 49 (by kernel_rfl) rfl; simp only [List.map_toArray, List.map_cons, List.map_nil, Act.eval, e0, e1, e2]; exact (SC.out) LL ww cc.world cc.fresh)
    | 6, _ => exact rstep_first (fun _ => trivial) rfl (rwant_none rfl) (DoJ.pure (by decide)) 1 (Or.inl rfl) (by kernel_rfl) (fun _ => rfl)
    | 7, _ => exact rstep_pure (fun _ => trivial) rfl (rwant_none rfl) (DoJ.pure (by decide)) (fun LL aa ww cc => ⟨.pointer (some ⟨bo, 1, none⟩), by have e0 : aa.tmps.getD 5 undef = .pointer (some ⟨bo, 0, none⟩) := (cc.orig 5 (by kernel_rfl)).trans rfl; simp only [execOp, Act.eval, e0]; go_simp, rfl⟩)
    | 8, _ => exact rstep_pure (fun _ => trivial) rfl (rwant_none rfl) (DoJ.pure (by decide)) (fun LL aa ww cc => ⟨.int .i64 nn, by have e0 : aa.tmps.getD 52 undef = .pointer (some ⟨bo, 1, none⟩) := cc.slot 7 52 (by kernel_rfl) rfl; obtain ⟨q0, q1, q2, q3⟩ := cc.world.box; simp only [execOp, Act.eval, e0]; go_simp, rfl⟩)
    | 9, _ => exact rstep_pure (fun _ => trivial) rfl (rwant_none rfl) (DoJ.pure (by decide)) (fun LL aa ww cc => ⟨.pointer (some ⟨bo, 2, none⟩), by have e0 : aa.tmps.getD 5 undef = .pointer (some ⟨bo, 0, none⟩) := (cc.orig 5 (by kernel_rfl)).trans rfl; simp only [execOp, Act.eval, e0]; go_simp, rfl⟩)
    | 10, _ => exact rstep_pure (fun _ => trivial) rfl (rwant_none rfl) (DoJ.pure (by decide)) (fun LL aa ww cc => ⟨.int .i64 tt, by have e0 : aa.tmps.getD 54 undef = .pointer (some ⟨bo, 2, none⟩) := cc.slot 9 54 (by kernel_rfl) rfl; obtain ⟨q0, q1, q2, q3⟩ := cc.world.box; simp only [execOp, Act.eval, e0]; go_simp, rfl⟩)
    | 11, _ => exact rstep_call rfl (rwant_none rfl) _ _ _ rfl (enters_of Try.func42 (by kernel_rfl) rfl) (fun LL aa ww cc => by have e0 : aa.tmps.getD 51 undef = .pointer (some ⟨R, 0, none⟩) := cc.slot 6 51 (by kernel_rfl) rfl; have e1 : aa.tmps.getD 53 undef = .int .i64 nn := cc.slot 8 53 (by kernel_rfl) rfl; have e2 : aa.tmps.getD 55 undef = .int .i64 tt := cc.slot 10 55 (by kernel_rfl) rfl; simp only [List.map_toArray, List.map_cons, List.map_nil, Act.eval, e0, e1, e2]; exact (MC.out) LL ww cc.world cc.fresh)
    | 12, _ => exact rstep_eqO (fun _ => trivial) rfl (rwant_none rfl) (DoJ.pure (by decide)) 50 56 rfl (fun LL aa ww cc => cc.slot 5 50 (by kernel_rfl) rfl) (fun LL aa ww cc => cc.slot 11 56 (by kernel_rfl) rfl) rfl
    | 13, _ => exact rstep_pure (fun _ => trivial) rfl (rwant_none rfl) (DoJ.pure (by decide)) (fun LL aa ww cc => by obtain ⟨z1, f1⟩ := cc.slot 12 57 (by kernel_rfl) rfl; exact ⟨.bool z1, by (simp only [execOp, Act.eval, f1]; go_simp), ⟨_, rfl⟩⟩)
    | n + 14, h => exact absurd h (by show ¬ (n + 14 < 14); omega)
  · intro L9 VV w5 hall hlen hJ5 hok
    match VV, hlen with
    | [v0, v1, v2, v3, v4, v5, v6, v7, v8, v9, v10, v11, v12, v13], _ =>
      obtain rfl : v0 = .pointer (some ⟨S, 0, none⟩) := hok 0 45 rfl
      obtain rfl : v1 = .pointer (some ⟨bo, 1, none⟩) := hok 1 46 rfl
      obtain rfl : v2 = .int .i64 nn := hok 2 47 rfl
      obtain rfl : v3 = .pointer (some ⟨bo, 2, none⟩) := hok 3 48 rfl
      obtain rfl : v4 = .int .i64 tt := hok 4 49 rfl
      have p5 := hok 5 50 rfl
      obtain rfl : v6 = .pointer (some ⟨R, 0, none⟩) := hok 6 51 rfl
      obtain rfl : v7 = .pointer (some ⟨bo, 1, none⟩) := hok 7 52 rfl
      obtain rfl : v8 = .int .i64 nn := hok 8 53 rfl
      obtain rfl : v9 = .pointer (some ⟨bo, 2, none⟩) := hok 9 54 rfl
      obtain rfl : v10 = .int .i64 tt := hok 10 55 rfl
      have p11 := hok 11 56 rfl
      have p12 := hok 12 57 rfl
      have p13 := hok 13 6 rfl
      obtain ⟨z9, rfl⟩ := p13
      have HE : Hid (TwoM B w0 S R P0 (b + 1) w5) := Lib.hid (by
        unfold DoJ at hJ5
        rw [if_pos (hall 11 (by decide))] at hJ5
        exact hJ5.bare)
      clear hok hall hJ5
      simp only [List.zip_cons_cons, List.zip_nil_right, putsL]
      go_simp
      go_wp2
      go_ret
      exact ⟨_, rfl, HE.out⟩
set_option maxRecDepth 100000 in
set_option maxHeartbeats 1000000 in
theorem do_give5 (B : Nat) (w0 w : World) (S R : Nat) (P0 : PSet) (b : Nat) (h : TwoM B w0 S R P0 b w) (hb : b < 100) (ki nn tt vv : Int) (hk : ki = 5) :
    Calls Try.prog 36 #[.pointer (some ⟨S, 0, none⟩), .pointer (some ⟨R, 0, none⟩), .agg #[.int .i64 ki, .int .i64 nn, .int .i64 tt, .int .i64 vv]] w (RetTwo B w0 S R P0 (b + 1)) := by
  have H := Lib.hid h
  have HB := Lib.hid hb
  clear h hb
  subst hk
  go_enter Try.func36, Try.ntmps36
  go_wp2_with ((with_reducible show wpList _ _ _ (Oper.mk _ (Op.box 74 _) _ _ _ _ :: _) _ _); refine wpList_boxS (T := 74) rfl _ rfl [.int .i64 5, .int .i64 nn, .int .i64 tt, .int .i64 vv] rfl ?_)
  intro w1 hb1 hg1 hs1
  obtain ⟨bo, hbo⟩ : ∃ b, b = w.heap.size := ⟨_, rfl⟩
  have HT : Hid (TwoB B w0 S R P0 b bo [.int .i64 5, .int .i64 nn, .int .i64 tt, .int .i64 vv] w1) := Lib.hid (by rw [hbo]; exact TwoM.boxed H.out hb1 hg1)
  rw [← hbo] at hb1 ⊢
  have cb0 : w1.cell? ⟨bo, 0, none⟩ = some (.int .i64 5) := hb1.cell rfl
  clear hb1 hg1 hs1 hbo
  have SC : Hid (∀ (L : Nat → Bool) (w : World), DoJ B w0 S R P0 b bo [.int .i64 5, .int .i64 nn, .int .i64 tt, .int .i64 vv] 15 L w → L 7 = false → Calls Try.prog 15 #[.pointer (some ⟨S, 0, none⟩), .int .i64 nn, .int .i64 vv, .int .i64 tt] w fun e w' => ∃ v, e = .returned v ∧ anyO.ok v w' ∧ True ∧ DoJ B w0 S R P0 b bo [.int .i64 5, .int .i64 nn, .int .i64 tt, .int .i64 vv] 15 (upd L 7) w') :=
    Lib.hid fun L w h _ => DoJ.set (is := isO) (by decide) (fun w P A c h hI => ⟨_, _, Give_calls w S P A c h hI nn vv tt, give_inv hI _ _ _, Same.give P _ _ _, ⟨_, rfl⟩⟩) L w h
  have MC : Hid (∀ (L : Nat → Bool) (w : World), DoJ B w0 S R P0 b bo [.int .i64 5, .int .i64 nn, .int .i64 tt, .int .i64 vv] 15 L w → L 15 = false → Calls Try.prog 43 #[.pointer (some ⟨R, 0, none⟩), .int .i64 nn, .int .i64 vv, .int .i64 tt] w fun e w' => ∃ v, e = .returned v ∧ anyO.ok v w' ∧ True ∧ DoJ B w0 S R P0 b bo [.int .i64 5, .int .i64 nn, .int .i64 tt, .int .i64 vv] 15 (upd L 15) w') :=
    Lib.hid fun L w h hL => DoJ.ref (is := isO) (fun w M A c h hI => rgive_calls w R M A c h b hI HB.out nn vv tt) L w h hL
  have HJ0 : Hid (DoJ B w0 S R P0 b bo [.int .i64 5, .int .i64 nn, .int .i64 tt, .int .i64 vv] 15 (fun _ => false) w1.drew) := Lib.hid (DoJ.start HT.out)
  go_wp2_with fail
  refine region_rel 18 (fun _ _ => True) (fun ix9 => ([.is (.pointer (some ⟨S, 0, none⟩)), .is (.pointer (some ⟨bo, 1, none⟩)), .is (.int .i64 nn), .is (.pointer (some ⟨bo, 3, none⟩)), .is (.int .i64 vv), .is (.pointer (some ⟨bo, 2, none⟩)), .is (.int .i64 tt), anyO, .is (.pointer (some ⟨R, 0, none⟩)), .is (.pointer (some ⟨bo, 1, none⟩)), .is (.int .i64 nn), .is (.pointer (some ⟨bo, 3, none⟩)), .is (.int .i64 vv), .is (.pointer (some ⟨bo, 2, none⟩)), .is (.int .i64 tt), anyO, anyB, anyB] : List (RD (fun _ _ => True))).getD ix9 (.is undef)) [some 61, some 62, some 63, some 64, some 65, some 66, some 67, some 68, some 69, some 70, some 71, some 72, some 73, some 74, some 75, some 76, some 77, some 6] (DoJ B w0 S R P0 b bo [.int .i64 5, .int .i64 nn, .int .i64 tt, .int .i64 vv] 15) (fun _ => trivial) (by kernel_rfl) (by kernel_rfl) (by kernel_rfl) (by kernel_rfl) rfl HJ0.out (fun ii hii => ?_) ?_
  · match ii, hii with
    | 0, _ => exact rstep_first (fun _ => trivial) rfl (rwant_none rfl) (DoJ.pure (by decide)) 0 (Or.inl rfl) (by kernel_rfl) (fun _ => rfl)
    | 1, _ => exact rstep_pure (fun _ => trivial) rfl (rwant_none rfl) (DoJ.pure (by decide)) (fun LL aa ww cc => ⟨.pointer (some ⟨bo, 1, none⟩), by have e0 : aa.tmps.getD 5 undef = .pointer (some ⟨bo, 0, none⟩) := (cc.orig 5 (by kernel_rfl)).trans rfl; simp only [execOp, Act.eval, e0]; go_simp, rfl⟩)
    | 2, _ => exact rstep_pure (fun _ => trivial) rfl (rwant_none rfl) (DoJ.pure (by decide)) (fun LL aa ww cc => ⟨.int .i64 nn, by have e0 : aa.tmps.getD 62 undef = .pointer (some ⟨bo, 1, none⟩) := cc.slot 1 62 (by kernel_rfl) rfl; obtain ⟨q0, q1, q2, q3⟩ := cc.world.box; simp only [execOp, Act.eval, e0]; go_simp, rfl⟩)
    | 3, _ => exact rstep_pure (fun _ => trivial) rfl (rwant_none rfl) (DoJ.pure (by decide)) (fun LL aa ww cc => ⟨.pointer (some ⟨bo, 3, none⟩), by have e0 : aa.tmps.getD 5 undef = .pointer (some ⟨bo, 0, none⟩) := (cc.orig 5 (by kernel_rfl)).trans rfl; simp only [execOp, Act.eval, e0]; go_simp, rfl⟩)
    | 4, _ => exact rstep_pure (fun _ => trivial) rfl (rwant_none rfl) (DoJ.pure (by decide)) (fun LL aa ww cc => ⟨.int .i64 vv, by have e0 : aa.tmps.getD 64 undef = .pointer (some ⟨bo, 3, none⟩) := cc.slot 3 64 (by kernel_rfl) rfl; obtain ⟨q0, q1, q2, q3⟩ := cc.world.box; simp only [execOp, Act.eval, e0]; go_simp, rfl⟩)
    | 5, _ => exact rstep_pure (fun _ => trivial) rfl (rwant_none rfl) (DoJ.pure (by decide)) (fun LL aa ww cc => ⟨.pointer (some ⟨bo, 2, none⟩), by have e0 : aa.tmps.getD 5 undef = .pointer (some ⟨bo, 0, none⟩) := (cc.orig 5 (by kernel_rfl)).trans rfl; simp only [execOp, Act.eval, e0]; go_simp, rfl⟩)
    | 6, _ => exact rstep_pure (fun _ => trivial) rfl (rwant_none rfl) (DoJ.pure (by decide)) (fun LL aa ww cc => ⟨.int .i64 tt, by have e0 : aa.tmps.getD 66 undef = .pointer (some ⟨bo, 2, none⟩) := cc.slot 5 66 (by kernel_rfl) rfl; obtain ⟨q0, q1, q2, q3⟩ := cc.world.box; simp only [execOp, Act.eval, e0]; go_simp, rfl⟩)
    | 7, _ => exact rstep_call rfl (rwant_none rfl) _ _ _ rfl (enters_of Try.func15 (by kernel_rfl) rfl) (fun LL aa ww cc => by have e0 : aa.tmps.getD 61 undef = .pointer (some ⟨S, 0, none⟩) := cc.slot 0 61 (by kernel_rfl) rfl; have e1 : aa.tmps.getD 63 undef = .int .i64 nn := cc.slot 2 63 (by kernel_rfl) rfl; have e2 : aa.tmps.getD 65 undef = .int .i64 vv := cc.slot 4 65 (by kernel_rfl) rfl; have e3 : aa.tmps.getD 67 undef = .int .i64 tt := cc.slot 6 67 (by kernel_rfl) rfl; simp only [List.map_toArray, List.map_cons, List.map_nil, Act.eval, e0, e1, e2, e3]; exact (SC.out) LL ww cc.world cc.fresh)
    | 8, _ => exact rstep_first (fun _ => trivial) rfl (rwant_none rfl) (DoJ.pure (by decide)) 1 (Or.inl rfl) (by kernel_rfl) (fun _ => rfl)
    | 9, _ => exact rstep_pure (fun _ => trivial) rfl (rwant_none rfl) (DoJ.pure (by decide)) (fun LL aa ww cc => ⟨.pointer (some ⟨bo, 1, none⟩), by have e0 : aa.tmps.getD 5 undef = .pointer (some ⟨bo, 0, none⟩) := (cc.orig 5 (by kernel_rfl)).trans rfl; simp only [execOp, Act.eval, e0]; go_simp, rfl⟩)
    | 10, _ => exact rstep_pure (fun _ => trivial) rfl (rwant_none rfl) (DoJ.pure (by decide)) (fun LL aa ww cc => ⟨.int .i64 nn, by have e0 : aa.tmps.getD 70 undef = .pointer (some ⟨bo, 1, none⟩) := cc.slot 9 70 (by kernel_rfl) rfl; obtain ⟨q0, q1, q2, q3⟩ := cc.world.box; simp only [execOp, Act.eval, e0]; go_simp, rfl⟩)
    | 11, _ => exact rstep_pure (fun _ => trivial) rfl (rwant_none rfl) (DoJ.pure (by decide)) (fun LL aa ww cc => ⟨.pointer (some ⟨bo, 3, none⟩), by have e0 : aa.tmps.getD 5 undef = .pointer (some ⟨bo, 0, none⟩) := (cc.orig 5 (by kernel_rfl)).trans rfl; simp only [execOp, Act.eval, e0]; go_simp, rfl⟩)
    | 12, _ => exact rstep_pure (fun _ => trivial) rfl (rwant_none rfl) (DoJ.pure (by decide)) (fun LL aa ww cc => ⟨.int .i64 vv, by have e0 : aa.tmps.getD 72 undef = .pointer (some ⟨bo, 3, none⟩) := cc.slot 11 72 (by kernel_rfl) rfl; obtain ⟨q0, q1, q2, q3⟩ := cc.world.box; simp only [execOp, Act.eval, e0]; go_simp, rfl⟩)
    | 13, _ => exact rstep_pure (fun _ => trivial) rfl (rwant_none rfl) (DoJ.pure (by decide)) (fun LL aa ww cc => ⟨.pointer (some ⟨bo, 2, none⟩), by have e0 : aa.tmps.getD 5 undef = .pointer (some ⟨bo, 0, none⟩) := (cc.orig 5 (by kernel_rfl)).trans rfl; simp only [execOp, Act.eval, e0]; go_simp, rfl⟩)
    | 14, _ => exact rstep_pure (fun _ => trivial) rfl (rwant_none rfl) (DoJ.pure (by decide)) (fun LL aa ww cc => ⟨.int .i64 tt, by have e0 : aa.tmps.getD 74 undef = .pointer (some ⟨bo, 2, none⟩) := cc.slot 13 74 (by kernel_rfl) rfl; obtain ⟨q0, q1, q2, q3⟩ := cc.world.box; simp only [execOp, Act.eval, e0]; go_simp, rfl⟩)
    | 15, _ => exact rstep_call rfl (rwant_none rfl) _ _ _ rfl (enters_of Try.func43 (by kernel_rfl) rfl) (fun LL aa ww cc => by have e0 : aa.tmps.getD 69 undef = .pointer (some ⟨R, 0, none⟩) := cc.slot 8 69 (by kernel_rfl) rfl; have e1 : aa.tmps.getD 71 undef = .int .i64 nn := cc.slot 10 71 (by kernel_rfl) rfl; have e2 : aa.tmps.getD 73 undef = .int .i64 vv := cc.slot 12 73 (by kernel_rfl) rfl; have e3 : aa.tmps.getD 75 undef = .int .i64 tt := cc.slot 14 75 (by kernel_rfl) rfl; simp only [List.map_toArray, List.map_cons, List.map_nil, Act.eval, e0, e1, e2, e3]; exact (MC.out) LL ww cc.world cc.fresh)
    | 16, _ => exact rstep_eqO (fun _ => trivial) rfl (rwant_none rfl) (DoJ.pure (by decide)) 68 76 rfl (fun LL aa ww cc => cc.slot 7 68 (by kernel_rfl) rfl) (fun LL aa ww cc => cc.slot 15 76 (by kernel_rfl) rfl) rfl
    | 17, _ => exact rstep_pure (fun _ => trivial) rfl (rwant_none rfl) (DoJ.pure (by decide)) (fun LL aa ww cc => by obtain ⟨z1, f1⟩ := cc.slot 16 77 (by kernel_rfl) rfl; exact ⟨.bool z1, by (simp only [execOp, Act.eval, f1]; go_simp), ⟨_, rfl⟩⟩)
    | n + 18, h => exact absurd h (by show ¬ (n + 18 < 18); omega)
  · intro L9 VV w5 hall hlen hJ5 hok
    match VV, hlen with
    | [v0, v1, v2, v3, v4, v5, v6, v7, v8, v9, v10, v11, v12, v13, v14, v15, v16, v17], _ =>
      obtain rfl : v0 = .pointer (some ⟨S, 0, none⟩) := hok 0 61 rfl
      obtain rfl : v1 = .pointer (some ⟨bo, 1, none⟩) := hok 1 62 rfl
      obtain rfl : v2 = .int .i64 nn := hok 2 63 rfl
      obtain rfl : v3 = .pointer (some ⟨bo, 3, none⟩) := hok 3 64 rfl
      obtain rfl : v4 = .int .i64 vv := hok 4 65 rfl
      obtain rfl : v5 = .pointer (some ⟨bo, 2, none⟩) := hok 5 66 rfl
      obtain rfl : v6 = .int .i64 tt := hok 6 67 rfl
      have p7 := hok 7 68 rfl
      obtain rfl : v8 = .pointer (some ⟨R, 0, none⟩) := hok 8 69 rfl
      obtain rfl : v9 = .pointer (some ⟨bo, 1, none⟩) := hok 9 70 rfl
      obtain rfl : v10 = .int .i64 nn := hok 10 71 rfl
      obtain rfl : v11 = .pointer (some ⟨bo, 3, none⟩) := hok 11 72 rfl
      obtain rfl : v12 = .int .i64 vv := hok 12 73 rfl
      obtain rfl : v13 = .pointer (some ⟨bo, 2, none⟩) := hok 13 74 rfl
      obtain rfl : v14 = .int .i64 tt := hok 14 75 rfl
      have p15 := hok 15 76 rfl
      have p16 := hok 16 77 rfl
      have p17 := hok 17 6 rfl
      obtain ⟨z9, rfl⟩ := p17
      have HE : Hid (TwoM B w0 S R P0 (b + 1) w5) := Lib.hid (by
        unfold DoJ at hJ5
        rw [if_pos (hall 15 (by decide))] at hJ5
        exact hJ5.bare)
      clear hok hall hJ5
      simp only [List.zip_cons_cons, List.zip_nil_right, putsL]
      go_simp
      go_wp2
      go_ret
      exact ⟨_, rfl, HE.out⟩
set_option maxRecDepth 100000 in
set_option maxHeartbeats 1000000 in
theorem do_give6 (B : Nat) (w0 w : World) (S R : Nat) (P0 : PSet) (b : Nat) (h : TwoM B w0 S R P0 b w) (hb : b < 100) (ki nn tt vv : Int) (hk : ki = 6) :
    Calls Try.prog 36 #[.pointer (some ⟨S, 0, none⟩), .pointer (some ⟨R, 0, none⟩), .agg #[.int .i64 ki, .int .i64 nn, .int .i64 tt, .int .i64 vv]] w (RetTwo B w0 S R P0 (b + 1)) := by
  have H := Lib.hid h
  have HB := Lib.hid hb
  clear h hb
  subst hk
  go_enter Try.func36, Try.ntmps36
  go_wp2_with ((with_reducible show wpList _ _ _ (Oper.mk _ (Op.box 74 _) _ _ _ _ :: _) _ _); refine wpList_boxS (T := 74) rfl _ rfl [.int .i64 6, .int .i64 nn, .int .i64 tt, .int .i64 vv] rfl ?_)
  intro w1 hb1 hg1 hs1
  obtain ⟨bo, hbo⟩ : ∃ b, b = w.heap.size := ⟨_, rfl⟩
  have HT : Hid (TwoB B w0 S R P0 b bo [.int .i64 6, .int .i64 nn, .int .i64 tt, .int .i64 vv] w1) := Lib.hid (by rw [hbo]; exact TwoM.boxed H.out hb1 hg1)
  rw [← hbo] at hb1 ⊢
  have cb0 : w1.cell? ⟨bo, 0, none⟩ = some (.int .i64 6) := hb1.cell rfl
  clear hb1 hg1 hs1 hbo
  have SC : Hid (∀ (L : Nat → Bool) (w : World), DoJ B w0 S R P0 b bo [.int .i64 6, .int .i64 nn, .int .i64 tt, .int .i64 vv] 15 L w → L 7 = false → Calls Try.prog 15 #[.pointer (some ⟨S, 0, none⟩), .int .i64 nn, .int .i64 vv, .int .i64 tt] w fun e w' => ∃ v, e = .returned v ∧ anyO.ok v w' ∧ True ∧ DoJ B w0 S R P0 b bo [.int .i64 6, .int .i64 nn, .int .i64 tt, .int .i64 vv] 15 (upd L 7) w') :=
    Lib.hid fun L w h _ => DoJ.set (is := isO) (by decide) (fun w P A c h hI => ⟨_, _, Give_calls w S P A c h hI nn vv tt, give_inv hI _ _ _, Same.give P _ _ _, ⟨_, rfl⟩⟩) L w h
  have MC : Hid (∀ (L : Nat → Bool) (w : World), DoJ B w0 S R P0 b bo [.int .i64 6, .int .i64 nn, .int .i64 tt, .int .i64 vv] 15 L w → L 15 = false → Calls Try.prog 43 #[.pointer (some ⟨R, 0, none⟩), .int .i64 nn, .int .i64 vv, .int .i64 tt] w fun e w' => ∃ v, e = .returned v ∧ anyO.ok v w' ∧ True ∧ DoJ B w0 S R P0 b bo [.int .i64 6, .int .i64 nn, .int .i64 tt, .int .i64 vv] 15 (upd L 15) w') :=
    Lib.hid fun L w h hL => DoJ.ref (is := isO) (fun w M A c h hI => rgive_calls w R M A c h b hI HB.out nn vv tt) L w h hL
  have HJ0 : Hid (DoJ B w0 S R P0 b bo [.int .i64 6, .int .i64 nn, .int .i64 tt, .int .i64 vv] 15 (fun _ => false) w1.drew) := Lib.hid (DoJ.start HT.out)
  go_wp2_with fail
  refine region_rel 18 (fun _ _ => True) (fun ix9 => ([.is (.pointer (some ⟨S, 0, none⟩)), .is (.pointer (some ⟨bo, 1, none⟩)), .is (.int .i64 nn), .is (.pointer (some ⟨bo, 3, none⟩)), .is (.int .i64 vv), .is (.pointer (some ⟨bo, 2, none⟩)), .is (.int .i64 tt), anyO, .is (.pointer (some ⟨R, 0, none⟩)), .is (.pointer (some ⟨bo, 1, none⟩)), .is (.int .i64 nn), .is (.pointer (some ⟨bo, 3, none⟩)), .is (.int .i64 vv), .is (.pointer (some ⟨bo, 2, none⟩)), .is (.int .i64 tt), anyO, anyB, anyB] : List (RD (fun _ _ => True))).getD ix9 (.is undef)) [some 61, some 62, some 63, some 64, some 65, some 66, some 67, some 68, some 69, some 70, some 71, some 72, some 73, some 74, some 75, some 76, some 77, some 6] (DoJ B w0 S R P0 b bo [.int .i64 6, .int .i64 nn, .int .i64 tt, .int .i64 vv] 15) (fun _ => trivial) (by kernel_rfl) (by kernel_rfl) (by kernel_rfl) (by kernel_rfl) rfl HJ0.out (fun ii hii => ?_) ?_
  · match ii, hii with
    | 0, _ => exact rstep_first (fun _ => trivial) rfl (rwant_none rfl) (DoJ.pure (by decide)) 0 (Or.inl rfl) (by kernel_rfl) (fun _ => rfl)
    | 1, _ => exact rstep_pure (fun _ => trivial) rfl (rwant_none rfl) (DoJ.pure (by decide)) (fun LL aa ww cc => ⟨.pointer (some ⟨bo, 1, none⟩), by have e0 : aa.tmps.getD 5 undef = .pointer (some ⟨bo, 0, none⟩) := (cc.orig 5 (by kernel_rfl)).trans rfl; simp only [execOp, Act.eval, e0]; go_simp, rfl⟩)
    | 2, _ => exact rstep_pure (fun _ => trivial) rfl (rwant_none rfl) (DoJ.pure (by decide)) (fun LL aa ww cc => ⟨.int .i64 nn, by have e0 : aa.tmps.getD 62 undef = .pointer (some ⟨bo, 1, none⟩) := cc.slot 1 62 (by kernel_rfl) rfl; obtain ⟨q0, q1, q2, q3⟩ := cc.world.box; simp only [execOp, Act.eval, e0]; go_simp, rfl⟩)
    | 3, _ => exact rstep_pure (fun _ => trivial) rfl (rwant_none rfl) (DoJ.pure (by decide)) (fun LL aa ww cc => ⟨.pointer (some ⟨bo, 3, none⟩), by have e0 : aa.tmps.getD 5 undef = .pointer (some ⟨bo, 0, none⟩) := (cc.orig 5 (by kernel_rfl)).trans rfl; simp only [execOp, Act.eval, e0]; go_simp, rfl⟩)
    | 4, _ => exact rstep_pure (fun _ => trivial) rfl (rwant_none rfl) (DoJ.pure (by decide)) (fun LL aa ww cc => ⟨.int .i64 vv, by have e0 : aa.tmps.getD 64 undef = .pointer (some ⟨bo, 3, none⟩) := cc.slot 3 64 (by kernel_rfl) rfl; obtain ⟨q0, q1, q2, q3⟩ := cc.world.box; simp only [execOp, Act.eval, e0]; go_simp, rfl⟩)
    | 5, _ => exact rstep_pure (fun _ => trivial) rfl (rwant_none rfl) (DoJ.pure (by decide)) (fun LL aa ww cc => ⟨.pointer (some ⟨bo, 2, none⟩), by have e0 : aa.tmps.getD 5 undef = .pointer (some ⟨bo, 0, none⟩) := (cc.orig 5 (by kernel_rfl)).trans rfl; simp only [execOp, Act.eval, e0]; go_simp, rfl⟩)
    | 6, _ => exact rstep_pure (fun _ => trivial) rfl (rwant_none rfl) (DoJ.pure (by decide)) (fun LL aa ww cc => ⟨.int .i64 tt, by have e0 : aa.tmps.getD 66 undef = .pointer (some ⟨bo, 2, none⟩) := cc.slot 5 66 (by kernel_rfl) rfl; obtain ⟨q0, q1, q2, q3⟩ := cc.world.box; simp only [execOp, Act.eval, e0]; go_simp, rfl⟩)
    | 7, _ => exact rstep_call rfl (rwant_none rfl) _ _ _ rfl (enters_of Try.func15 (by kernel_rfl) rfl) (fun LL aa ww cc => by have e0 : aa.tmps.getD 61 undef = .pointer (some ⟨S, 0, none⟩) := cc.slot 0 61 (by kernel_rfl) rfl; have e1 : aa.tmps.getD 63 undef = .int .i64 nn := cc.slot 2 63 (by kernel_rfl) rfl; have e2 : aa.tmps.getD 65 undef = .int .i64 vv := cc.slot 4 65 (by kernel_rfl) rfl; have e3 : aa.tmps.getD 67 undef = .int .i64 tt := cc.slot 6 67 (by kernel_rfl) rfl; simp only [List.map_toArray, List.map_cons, List.map_nil, Act.eval, e0, e1, e2, e3]; exact (SC.out) LL ww cc.world cc.fresh)
    | 8, _ => exact rstep_first (fun _ => trivial) rfl (rwant_none rfl) (DoJ.pure (by decide)) 1 (Or.inl rfl) (by kernel_rfl) (fun _ => rfl)
    | 9, _ => exact rstep_pure (fun _ => trivial) rfl (rwant_none rfl) (DoJ.pure (by decide)) (fun LL aa ww cc => ⟨.pointer (some ⟨bo, 1, none⟩), by have e0 : aa.tmps.getD 5 undef = .pointer (some ⟨bo, 0, none⟩) := (cc.orig 5 (by kernel_rfl)).trans rfl; simp only [execOp, Act.eval, e0]; go_simp, rfl⟩)
    | 10, _ => exact rstep_pure (fun _ => trivial) rfl (rwant_none rfl) (DoJ.pure (by decide)) (fun LL aa ww cc => ⟨.int .i64 nn, by have e0 : aa.tmps.getD 70 undef = .pointer (some ⟨bo, 1, none⟩) := cc.slot 9 70 (by kernel_rfl) rfl; obtain ⟨q0, q1, q2, q3⟩ := cc.world.box; simp only [execOp, Act.eval, e0]; go_simp, rfl⟩)
    | 11, _ => exact rstep_pure (fun _ => trivial) rfl (rwant_none rfl) (DoJ.pure (by decide)) (fun LL aa ww cc => ⟨.pointer (some ⟨bo, 3, none⟩), by have e0 : aa.tmps.getD 5 undef = .pointer (some ⟨bo, 0, none⟩) := (cc.orig 5 (by kernel_rfl)).trans rfl; simp only [execOp, Act.eval, e0]; go_simp, rfl⟩)
    | 12, _ => exact rstep_pure (fun _ => trivial) rfl (rwant_none rfl) (DoJ.pure (by decide)) (fun LL aa ww cc => ⟨.int .i64 vv, by have e0 : aa.tmps.getD 72 undef = .pointer (some ⟨bo, 3, none⟩) := cc.slot 11 72 (by kernel_rfl) rfl; obtain ⟨q0, q1, q2, q3⟩ := cc.world.box; simp only [execOp, Act.eval, e0]; go_simp, rfl⟩)
    | 13, _ => exact rstep_pure (fun _ => trivial) rfl (rwant_none rfl) (DoJ.pure (by decide)) (fun LL aa ww cc => ⟨.pointer (some ⟨bo, 2, none⟩), by have e0 : aa.tmps.getD 5 undef = .pointer (some ⟨bo, 0, none⟩) := (cc.orig 5 (by kernel_rfl)).trans rfl; simp only [execOp, Act.eval, e0]; go_simp, rfl⟩)
    | 14, _ => exact rstep_pure (fun _ => trivial) rfl (rwant_none rfl) (DoJ.pure (by decide)) (fun LL aa ww cc => ⟨.int .i64 tt, by have e0 : aa.tmps.getD 74 undef = .pointer (some ⟨bo, 2, none⟩) := cc.slot 13 74 (by kernel_rfl) rfl; obtain ⟨q0, q1, q2, q3⟩ := cc.world.box; simp only [execOp, Act.eval, e0]; go_simp, rfl⟩)
    | 15, _ => exact rstep_call rfl (rwant_none rfl) _ _ _ rfl (enters_of Try.func43 (by kernel_rfl) rfl) (fun LL aa ww cc => by have e0 : aa.tmps.getD 69 undef = .pointer (some ⟨R, 0, none⟩) := cc.slot 8 69 (by kernel_rfl) rfl; have e1 : aa.tmps.getD 71 undef = .int .i64 nn := cc.slot 10 71 (by kernel_rfl) rfl; have e2 : aa.tmps.getD 73 undef = .int .i64 vv := cc.slot 12 73 (by kernel_rfl) rfl; have e3 : aa.tmps.getD 75 undef = .int .i64 tt := cc.slot 14 75 (by kernel_rfl) rfl; simp only [List.map_toArray, List.map_cons, List.map_nil, Act.eval, e0, e1, e2, e3]; exact (MC.out) LL ww cc.world cc.fresh)
    | 16, _ => exact rstep_eqO (fun _ => trivial) rfl (rwant_none rfl) (DoJ.pure (by decide)) 68 76 rfl (fun LL aa ww cc => cc.slot 7 68 (by kernel_rfl) rfl) (fun LL aa ww cc => cc.slot 15 76 (by kernel_rfl) rfl) rfl
    | 17, _ => exact rstep_pure (fun _ => trivial) rfl (rwant_none rfl) (DoJ.pure (by decide)) (fun LL aa ww cc => by obtain ⟨z1, f1⟩ := cc.slot 16 77 (by kernel_rfl) rfl; exact ⟨.bool z1, by (simp only [execOp, Act.eval, f1]; go_simp), ⟨_, rfl⟩⟩)
    | n + 18, h => exact absurd h (by show ¬ (n + 18 < 18); omega)
  · intro L9 VV w5 hall hlen hJ5 hok
    match VV, hlen with
    | [v0, v1, v2, v3, v4, v5, v6, v7, v8, v9, v10, v11, v12, v13, v14, v15, v16, v17], _ =>
      obtain rfl : v0 = .pointer (some ⟨S, 0, none⟩) := hok 0 61 rfl
      obtain rfl : v1 = .pointer (some ⟨bo, 1, none⟩) := hok 1 62 rfl
      obtain rfl : v2 = .int .i64 nn := hok 2 63 rfl
      obtain rfl : v3 = .pointer (some ⟨bo, 3, none⟩) := hok 3 64 rfl
      obtain rfl : v4 = .int .i64 vv := hok 4 65 rfl
      obtain rfl : v5 = .pointer (some ⟨bo, 2, none⟩) := hok 5 66 rfl
      obtain rfl : v6 = .int .i64 tt := hok 6 67 rfl
      have p7 := hok 7 68 rfl
      obtain rfl : v8 = .pointer (some ⟨R, 0, none⟩) := hok 8 69 rfl
      obtain rfl : v9 = .pointer (some ⟨bo, 1, none⟩) := hok 9 70 rfl
      obtain rfl : v10 = .int .i64 nn := hok 10 71 rfl
      obtain rfl : v11 = .pointer (some ⟨bo, 3, none⟩) := hok 11 72 rfl
      obtain rfl : v12 = .int .i64 vv := hok 12 73 rfl
      obtain rfl : v13 = .pointer (some ⟨bo, 2, none⟩) := hok 13 74 rfl
      obtain rfl : v14 = .int .i64 tt := hok 14 75 rfl
      have p15 := hok 15 76 rfl
      have p16 := hok 16 77 rfl
      have p17 := hok 17 6 rfl
      obtain ⟨z9, rfl⟩ := p17
      have HE : Hid (TwoM B w0 S R P0 (b + 1) w5) := Lib.hid (by
        unfold DoJ at hJ5
        rw [if_pos (hall 15 (by decide))] at hJ5
        exact hJ5.bare)
      clear hok hall hJ5
      simp only [List.zip_cons_cons, List.zip_nil_right, putsL]
      go_simp
      go_wp2
      go_ret
      exact ⟨_, rfl, HE.out⟩
set_option maxRecDepth 100000 in
set_option maxHeartbeats 1000000 in
theorem do_lower (B : Nat) (w0 w : World) (S R : Nat) (P0 : PSet) (b : Nat) (h : TwoM B w0 S R P0 b w) (hb : b < 100) (ki nn tt vv : Int) (hk : ki = 7) :
    Calls Try.prog 36 #[.pointer (some ⟨S, 0, none⟩), .pointer (some ⟨R, 0, none⟩), .agg #[.int .i64 ki, .int .i64 nn, .int .i64 tt, .int .i64 vv]] w (RetTwo B w0 S R P0 (b + 1)) := by
  have H := Lib.hid h
  have HB := Lib.hid hb
  clear h hb
  subst hk
  go_enter Try.func36, Try.ntmps36
  go_wp2_with ((with_reducible show wpList _ _ _ (Oper.mk _ (Op.box 74 _) _ _ _ _ :: _) _ _); refine wpList_boxS (T := 74) rfl _ rfl [.int .i64 7, .int .i64 nn, .int .i64 tt, .int .i64 vv] rfl ?_)
  intro w1 hb1 hg1 hs1
  obtain ⟨bo, hbo⟩ : ∃ b, b = w.heap.size := ⟨_, rfl⟩
  have HT : Hid (TwoB B w0 S R P0 b bo [.int .i64 7, .int .i64 nn, .int .i64 tt, .int .i64 vv] w1) := Lib.hid (by rw [hbo]; exact TwoM.boxed H.out hb1 hg1)
  rw [← hbo] at hb1 ⊢
  have cb0 : w1.cell? ⟨bo, 0, none⟩ = some (.int .i64 7) := hb1.cell rfl
  clear hb1 hg1 hs1 hbo
  have SC : Hid (∀ (L : Nat → Bool) (w : World), DoJ B w0 S R P0 b bo [.int .i64 7, .int .i64 nn, .int .i64 tt, .int .i64 vv] 7 L w → L 3 = false → Calls Try.prog 44 #[.pointer (some ⟨S, 0, none⟩), .int .i64 nn] w fun e w' => ∃ v, e = .returned v ∧ anyI.ok v w' ∧ True ∧ DoJ B w0 S R P0 b bo [.int .i64 7, .int .i64 nn, .int .i64 tt, .int .i64 vv] 7 (upd L 3) w') :=
    Lib.hid fun L w h _ => DoJ.set (is := isI) (by decide) (fun w P A c h hI => ⟨_, _, Lower_calls w S P A c h hI nn, lower_inv hI _, Same.lower P _, ⟨_, rfl⟩⟩) L w h
  have MC : Hid (∀ (L : Nat → Bool) (w : World), DoJ B w0 S R P0 b bo [.int .i64 7, .int .i64 nn, .int .i64 tt, .int .i64 vv] 7 L w → L 7 = false → Calls Try.prog 45 #[.pointer (some ⟨R, 0, none⟩), .int .i64 nn] w fun e w' => ∃ v, e = .returned v ∧ anyI.ok v w' ∧ True ∧ DoJ B w0 S R P0 b bo [.int .i64 7, .int .i64 nn, .int .i64 tt, .int .i64 vv] 7 (upd L 7) w') :=
    Lib.hid fun L w h hL => DoJ.ref (is := isI) (fun w M A c h hI => rlower_calls w R M A c h b hI nn) L w h hL
  have HJ0 : Hid (DoJ B w0 S R P0 b bo [.int .i64 7, .int .i64 nn, .int .i64 tt, .int .i64 vv] 7 (fun _ => false) w1.drew) := Lib.hid (DoJ.start HT.out)
  go_wp2_with fail
  refine region_rel 10 (fun _ _ => True) (fun ix9 => ([.is (.pointer (some ⟨S, 0, none⟩)), .is (.pointer (some ⟨bo, 1, none⟩)), .is (.int .i64 nn), anyI, .is (.pointer (some ⟨R, 0, none⟩)), .is (.pointer (some ⟨bo, 1, none⟩)), .is (.int .i64 nn), anyI, anyB, anyB] : List (RD (fun _ _ => True))).getD ix9 (.is undef)) [some 80, some 81, some 82, some 83, some 84, some 85, some 86, some 87, some 88, some 6] (DoJ B w0 S R P0 b bo [.int .i64 7, .int .i64 nn, .int .i64 tt, .int .i64 vv] 7) (fun _ => trivial) (by kernel_rfl) (by kernel_rfl) (by kernel_rfl) (by kernel_rfl) rfl HJ0.out (fun ii hii => ?_) ?_
  · match ii, hii with
    | 0, _ => exact rstep_first (fun _ => trivial) rfl (rwant_none rfl) (DoJ.pure (by decide)) 0 (Or.inl rfl) (by kernel_rfl) (fun _ => rfl)
    | 1, _ => exact rstep_pure (fun _ => trivial) rfl (rwant_none rfl) (DoJ.pure (by decide)) (fun LL aa ww cc => ⟨.pointer (some ⟨bo, 1, none⟩), by have e0 : aa.tmps.getD 5 undef = .pointer (some ⟨bo, 0, none⟩) := (cc.orig 5 (by kernel_rfl)).trans rfl; simp only [execOp, Act.eval, e0]; go_simp, rfl⟩)
    | 2, _ => exact rstep_pure (fun _ => trivial) rfl (rwant_none rfl) (DoJ.pure (by decide)) (fun LL aa ww cc => ⟨.int .i64 nn, by have e0 : aa.tmps.getD 81 undef = .pointer (some ⟨bo, 1, none⟩) := cc.slot 1 81 (by kernel_rfl) rfl; obtain ⟨q0, q1, q2, q3⟩ := cc.world.box; simp only [execOp, Act.eval, e0]; go_simp, rfl⟩)
    | 3, _ => exact rstep_call rfl (rwant_none rfl) _ _ _ rfl (enters_of Try.func44 (by kernel_rfl) rfl) (fun LL aa ww cc => by have e0 : aa.tmps.getD 80 undef = .pointer (some ⟨S, 0, none⟩) := cc.slot 0 80 (by kernel_rfl) rfl; have e1 : aa.tmps.getD 82 undef = .int .i64 nn := cc.slot 2 82 (by kernel_rfl) rfl; simp only [List.map_toArray, List.map_cons, List.map_nil, Act.eval, e0, e1]; exact (SC.out) LL ww cc.world cc.fresh)
    | 4, _ => exact rstep_first (fun _ => trivial) rfl (rwant_none rfl) (DoJ.pure (by decide)) 1 (Or.inl rfl) (by kernel_rfl) (fun _ => rfl)
    | 5, _ => exact rstep_pure (fun _ => trivial) rfl (rwant_none rfl) (DoJ.pure (by decide)) (fun LL aa ww cc => ⟨.pointer (some ⟨bo, 1, none⟩), by have e0 : aa.tmps.getD 5 undef = .pointer (some ⟨bo, 0, none⟩) := (cc.orig 5 (by kernel_rfl)).trans rfl; simp only [execOp, Act.eval, e0]; go_simp, rfl⟩)
    | 6, _ => exact rstep_pure (fun _ => trivial) rfl (rwant_none rfl) (DoJ.pure (by decide)) (fun LL aa ww cc => ⟨.int .i64 nn, by have e0 : aa.tmps.getD 85 undef = .pointer (some ⟨bo, 1, none⟩) := cc.slot 5 85 (by kernel_rfl) rfl; obtain ⟨q0, q1, q2, q3⟩ := cc.world.box; simp only [execOp, Act.eval, e0]; go_simp, rfl⟩)
    | 7, _ => exact rstep_call rfl (rwant_none rfl) _ _ _ rfl (enters_of Try.func45 (by kernel_rfl) rfl) (fun LL aa ww cc => by have e0 : aa.tmps.getD 84 undef = .pointer (some ⟨R, 0, none⟩) := cc.slot 4 84 (by kernel_rfl) rfl; have e1 : aa.tmps.getD 86 undef = .int .i64 nn := cc.slot 6 86 (by kernel_rfl) rfl; simp only [List.map_toArray, List.map_cons, List.map_nil, Act.eval, e0, e1]; exact (MC.out) LL ww cc.world cc.fresh)
    | 8, _ => exact rstep_pure (fun _ => trivial) rfl (rwant_none rfl) (DoJ.pure (by decide)) (fun LL aa ww cc => by obtain ⟨z1, f1⟩ := cc.slot 3 83 (by kernel_rfl) rfl; obtain ⟨z2, f2⟩ := cc.slot 7 87 (by kernel_rfl) rfl; exact ⟨.bool (z1 == z2), by (simp only [execOp, Act.eval, f1, f2]; go_simp), ⟨_, rfl⟩⟩)
    | 9, _ => exact rstep_pure (fun _ => trivial) rfl (rwant_none rfl) (DoJ.pure (by decide)) (fun LL aa ww cc => by obtain ⟨z1, f1⟩ := cc.slot 8 88 (by kernel_rfl) rfl; exact ⟨.bool z1, by (simp only [execOp, Act.eval, f1]; go_simp), ⟨_, rfl⟩⟩)
    | n + 10, h => exact absurd h (by show ¬ (n + 10 < 10); omega)
  · intro L9 VV w5 hall hlen hJ5 hok
    match VV, hlen with
    | [v0, v1, v2, v3, v4, v5, v6, v7, v8, v9], _ =>
      obtain rfl : v0 = .pointer (some ⟨S, 0, none⟩) := hok 0 80 rfl
      obtain rfl : v1 = .pointer (some ⟨bo, 1, none⟩) := hok 1 81 rfl
      obtain rfl : v2 = .int .i64 nn := hok 2 82 rfl
      have p3 := hok 3 83 rfl
      obtain rfl : v4 = .pointer (some ⟨R, 0, none⟩) := hok 4 84 rfl
      obtain rfl : v5 = .pointer (some ⟨bo, 1, none⟩) := hok 5 85 rfl
      obtain rfl : v6 = .int .i64 nn := hok 6 86 rfl
      have p7 := hok 7 87 rfl
      have p8 := hok 8 88 rfl
      have p9 := hok 9 6 rfl
      obtain ⟨z9, rfl⟩ := p9
      have HE : Hid (TwoM B w0 S R P0 (b + 1) w5) := Lib.hid (by
        unfold DoJ at hJ5
        rw [if_pos (hall 7 (by decide))] at hJ5
        exact hJ5.bare)
      clear hok hall hJ5
      simp only [List.zip_cons_cons, List.zip_nil_right, putsL]
      go_simp
      go_wp2
      go_ret
      exact ⟨_, rfl, HE.out⟩
set_option maxRecDepth 100000 in
set_option maxHeartbeats 1000000 in
theorem do_tick (B : Nat) (w0 w : World) (S R : Nat) (P0 : PSet) (b : Nat) (h : TwoM B w0 S R P0 b w) (hb : b < 100) (ki nn tt vv : Int) (h0 : ki ≠ 0) (h1 : ki ≠ 1) (h2 : ki ≠ 2) (h3 : ki ≠ 3) (h4 : ki ≠ 4) (h5 : ki ≠ 5) (h6 : ki ≠ 6) (h7 : ki ≠ 7) :
    Calls Try.prog 36 #[.pointer (some ⟨S, 0, none⟩), .pointer (some ⟨R, 0, none⟩), .agg #[.int .i64 ki, .int .i64 nn, .int .i64 tt, .int .i64 vv]] w (RetTwo B w0 S R P0 (b + 1)) := by
  have H := Lib.hid h
  have HB := Lib.hid hb
  clear h hb
  have e0 : (ki == 0) = false := by simpa using h0
  have e1 : (ki == 1) = false := by simpa using h1
  have e2 : (ki == 2) = false := by simpa using h2
  have e3 : (ki == 3) = false := by simpa using h3
  have e4 : (ki == 4) = false := by simpa using h4
  have e5 : (ki == 5) = false := by simpa using h5
  have e6 : (ki == 6) = false := by simpa using h6
  have e7 : (ki == 7) = false := by simpa using h7
  clear h0 h1 h2 h3 h4 h5 h6 h7
  go_enter Try.func36, Try.ntmps36
  go_wp2_with ((with_reducible show wpList _ _ _ (Oper.mk _ (Op.box 74 _) _ _ _ _ :: _) _ _); refine wpList_boxS (T := 74) rfl _ rfl [.int .i64 ki, .int .i64 nn, .int .i64 tt, .int .i64 vv] rfl ?_)
  intro w1 hb1 hg1 hs1
  obtain ⟨bo, hbo⟩ : ∃ b, b = w.heap.size := ⟨_, rfl⟩
  have HT : Hid (TwoB B w0 S R P0 b bo [.int .i64 ki, .int .i64 nn, .int .i64 tt, .int .i64 vv] w1) := Lib.hid (by rw [hbo]; exact TwoM.boxed H.out hb1 hg1)
  rw [← hbo] at hb1 ⊢
  have cb0 : w1.cell? ⟨bo, 0, none⟩ = some (.int .i64 ki) := hb1.cell rfl
  clear hb1 hg1 hs1 hbo
  go_wp2_with fail
  refine (TwoB.set (is := fun _ => True) HT.out (F := 21) (fun P A c h hI => ⟨_, _, Tick_calls w1 S P A c h hI, tick_inv hI, Same.tick P, trivial⟩)).mono ?_
  rintro e w2 ⟨v, rfl, _, _, h2⟩
  have HT2 := Lib.hid h2
  clear HT h2 cb0
  go_wp2_with fail
  refine (TwoB.ref (is := fun v => v = .tuple #[]) HT2.out (F := 46) (fun M A c h hI => rtick_calls w2 R M A c h b hI HB.out)).mono ?_
  rintro e w3 ⟨v, rfl, _, _, h3⟩
  have HE := Lib.hid h3.bare
  clear h3 HT2
  go_wp2
  go_ret
  exact ⟨_, rfl, HE.out⟩
theorem do_calls (B : Nat) (w0 w : World) (S R : Nat) (P0 : PSet) (b : Nat) (h : TwoM B w0 S R P0 b w) (hb : b < 100) (x : ActI) :
    Calls Try.prog 36 #[.pointer (some ⟨S, 0, none⟩), .pointer (some ⟨R, 0, none⟩), .agg #[.int .i64 x.kind, .int .i64 x.n, .int .i64 x.ticks, .int .i64 x.v]] w (RetTwo B w0 S R P0 (b + 1)) := by
  by_cases h0 : x.kind = 0
  · exact do_start B w0 w S R P0 b h hb _ _ _ _ h0
  by_cases h1 : x.kind = 1
  · exact do_stop B w0 w S R P0 b h hb _ _ _ _ h1
  by_cases h2 : x.kind = 2
  · exact do_sleep B w0 w S R P0 b h hb _ _ _ _ h2
  by_cases h3 : x.kind = 3
  · exact do_take3 B w0 w S R P0 b h hb _ _ _ _ h3
  by_cases h4 : x.kind = 4
  · exact do_take4 B w0 w S R P0 b h hb _ _ _ _ h4
  by_cases h5 : x.kind = 5
  · exact do_give5 B w0 w S R P0 b h hb _ _ _ _ h5
  by_cases h6 : x.kind = 6
  · exact do_give6 B w0 w S R P0 b h hb _ _ _ _ h6
  by_cases h7 : x.kind = 7
  · exact do_lower B w0 w S R P0 b h hb _ _ _ _ h7
  exact do_tick B w0 w S R P0 b h hb _ _ _ _ h0 h1 h2 h3 h4 h5 h6 h7
end Go.Proofs.Ytgeffkdobnipgaa
