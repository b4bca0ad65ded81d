/- procs: release and wait. -/
import Derived.Test.YtgeffkdobnipgaaProcLeave
import Derived.Test.YtgeffkdobnipgaaTailM
import Derived.Test.YtgeffkdobnipgaaAppL
namespace Go.Proofs.Ytgeffkdobnipgaa
open Go.RowKit Nac Nac.Procs
section
variable {w0 w w' : World} {S : Nat} {P : PSet} {A0 A A' : Nat → Option Addr} {c c' : Nat → Nat}
theorem s3Out : (Try.prog.info? 37).map (·.size) = some 3 := by kernel_rfl
/-- a store of the last outcome of a process -/
theorem wpList_storeLast {ops : Array Oper} {rest : List Oper} {o : Oper} {a : Act} {Q : Exit → Act → World → Prop} (hg : o.guard = none) (x y : Operand) (hop : o.op = .store 37 x y)
    (H : Hid (SetM w S P A c)) (HF : Hid (FrS S A0 w0 A w)) {p g : Nat} (u : Out) (hp : p < P.ps.length) (hA : Hid (A 0 = some ⟨g, 0, none⟩))
    (hx : a.eval x = .pointer (some ⟨g, p * 8 + 2, none⟩)) (hy : a.eval y = .agg #[.int .i64 u.code, .int .i64 u.value, .bool u.waits])
    (h : ∀ w', Hid (SetM w' S (P.setP p { P.proc p with last := u }) A c) → Hid (FrS S A0 w0 A w') → wpList Try.prog ops Q rest (a.put o.dst undef) w') : wpList Try.prog ops Q (o :: rest) a w := by
  have ht : w.there g (p * 8 + 2) 3 := fun j hj => by
    obtain ⟨v, hv⟩ := pcells_get (P.proc p) (f := 2 + j) (by omega)
    have := H.out.pget hp hA.out hv
    rw [show p * 8 + 2 + j = p * 8 + (2 + j) by omega]
    exact ⟨by rw [this]; rfl, H.out.pfree hp hA.out _⟩
  refine wpList_store_mid hg 37 x y hop g (p * 8 + 2) #[.int .i64 u.code, .int .i64 u.value, .bool u.waits] hx hy ht s3Out (by simp [Value.oneCell']) ?_
  have h1 := H.out.storeP hp (f := 2) (by decide) (.int .i64 u.code) { P.proc p with last := ⟨u.code, (P.proc p).last.value, (P.proc p).last.waits⟩ } rfl hA.out
  have h2 := h1.storeP (p := p) (f := 3) (by rw [ps_setP]; exact hp) (by decide) (.int .i64 u.value) { P.proc p with last := ⟨u.code, u.value, (P.proc p).last.waits⟩ } (by rw [proc_setP hp]; rfl) hA.out
  rw [setP_setP] at h2
  have h3 := h2.storeP (p := p) (f := 4) (by rw [ps_setP]; exact hp) (by decide) (.bool u.waits) { P.proc p with last := u } (by rw [proc_setP hp]; rfl) hA.out
  rw [setP_setP] at h3
  have hf : FrS S A w A (w.setCells g (p * 8 + 2) [.int .i64 u.code, .int .i64 u.value, .bool u.waits]) := FrS.grown (grown_setCells g _ _ _) fun k e => .inl (by injection e with e; rw [← e]; exact H.out.footP hA.out)
  exact h _ (Lib.hid h3) (Lib.hid (HF.out.trans hf))
end
theorem FrS.cells {S : Nat} {A A' : Nat → Option Addr} {w w' : World} {b : Nat} {cs : List Value} (h : FrS S A w A' w') (hb : Blk w b cs) (hf : ¬ Foot S A b) : Blk w' b cs := h.blk hb hf
theorem SetM.notFoot {w : World} {S : Nat} {P : PSet} {A : Nat → Option Addr} {c : Nat → Nat} (h : SetM w S P A c) {b : Nat} (hb : w.heap.size ≤ b) : ¬ Foot S A b := by
  rintro (rfl | ⟨j, hj⟩)
  · have := h.blk.lt; omega
  · have := h.lt j b hj; omega
theorem FrS.of {S : Nat} {A A' : Nat → Option Addr} {w0 w w' : World} (hb : Below w0.heap.size w0 w) (h : FrS S A w A' w') : FrS S A w0 A' w' := (FrS.below hb).trans h
theorem release_calls (w : World) (S : Nat) (P : PSet) (A : Nat → Option Addr) (c : Nat → Nat) (h : SetM w S P A c) (hw : Wf P 999) (p : Nat) (hp : p < P.ps.length) (oc ov : Int) (ow : Bool) :
    Calls Try.prog 31 #[.pointer (some ⟨S, 0, none⟩), .int .i64 (p : Int), .agg #[.int .i64 oc, .int .i64 ov, .bool ow]] w (RetSet w S A (.tuple #[]) (release P p ⟨oc, ov, ow⟩)) := by
  have hb1 : Below w.heap.size w (w.alloc (.cells #[.int .i64 oc, .int .i64 ov, .bool ow] 37)) := (Below.refl _ _).alloc (Nat.le_refl _) _
  have H1 := Lib.hid (h.below hb1)
  have HF1 : Hid (FrS S A w A (w.alloc (.cells #[.int .i64 oc, .int .i64 ov, .bool ow] 37))) := Lib.hid (FrS.below hb1)
  obtain ⟨b, hb⟩ : ∃ b, b = w.heap.size := ⟨_, rfl⟩
  have BX1 : Hid (Blk (w.alloc (.cells #[.int .i64 oc, .int .i64 ov, .bool ow] 37)) b [.int .i64 oc, .int .i64 ov, .bool ow]) := Lib.hid (by rw [hb]; exact Blk.new w [.int .i64 oc, .int .i64 ov, .bool ow] 37)
  have HNF : Hid (¬ Foot S A b) := Lib.hid (h.notFoot (by rw [hb]; exact Nat.le_refl _))
  have HW := Lib.hid hw
  have HP := Lib.hid hp
  have HBE := Lib.hid hb
  clear h hw hp hb hb1
  go_enter Try.func31, Try.ntmps31
  go_wp2_with fail
  rw [← HBE.out]
  refine (leave_calls _ S P A c H1.out ⟨HW.out.n, HW.out.m, by have := HW.out.rd; omega, fun r => by have := HW.out.q r; omega, HW.out.res⟩ p HP.out).mono ?_
  rintro e w2 ⟨rfl, A1, c1, h2, hf2⟩
  have HF2 := Lib.hid (HF1.out.trans hf2)
  have BX2 := Lib.hid (hf2.blk BX1.out HNF.out)
  have hp2 : p < (leave P p).ps.length := by rw [leave_n]; exact HP.out
  obtain ⟨g, hA, _⟩ := h2.pcell hp2
  obtain ⟨n, hn⟩ : ∃ n, n = (leave P p).ps.length := ⟨_, rfl⟩
  have C0 : Hid (∀ w', Below w2.drew.heap.size w2.drew w' → w'.cell? ⟨S, 0, none⟩ = some (.slice (some ⟨g, 0, none⟩) n (c1 0))) := Lib.hid fun w' hb' => (h2.drew.below hb').head0 hA hn
  have BX : Hid (∀ w', Below w2.drew.heap.size w2.drew w' → w'.cell? ⟨b, 0, none⟩ = some (.int .i64 oc) ∧ w'.cell? ⟨b, 1, none⟩ = some (.int .i64 ov) ∧ w'.cell? ⟨b, 2, none⟩ = some (.bool ow)) := Lib.hid fun w' hb' => by
    have := BX2.out.drew.below hb' BX2.out.lt
    exact ⟨this.cell rfl, this.cell rfl, this.cell rfl⟩
  have HP2 := Lib.hid hp2
  have hpn : p < n := by rw [hn]; exact hp2
  have hn8 : n ≤ 1000 := by rw [hn, leave_n]; exact HW.out.n
  have H2 := Lib.hid h2
  have HA := Lib.hid hA
  clear h2 hf2 hA hn hp2 HF1 H1 BX1 BX2 HNF
  go_wp2_with fail
  refine region_tails 8 (fun ix9 => ([.is (.pointer (some ⟨S, 0, none⟩)), .is (.pointer (some ⟨S, 0, none⟩)), .is (.pointer (some ⟨S, 0, none⟩)), .is (.slice (some ⟨g, 0, none⟩) n (c1 0)), .is (.int .i64 (p : Int)), .is (.agg #[.int .i64 oc, .int .i64 ov, .bool ow]), .is (.pointer (some ⟨g, p * 8, none⟩)), .is (.pointer (some ⟨g, p * 8 + 2, none⟩))] : List VD).getD ix9 (.is undef)) [some 9, some 10, some 11, some 12, some 13, some 14, some 15, some 16] (by kernel_rfl) (by kernel_rfl) (by kernel_rfl) (by kernel_rfl) rfl (fun ii hii => ?_) ?_
  · match ii, hii with
    | 0, _ => exact mstep_first rfl (mwant_none rfl) 0 (Or.inl rfl) (by kernel_rfl) (fun _ _ => rfl)
    | 1, _ => exact mstep_pure rfl (mwant_none rfl) (fun aa ww cc => ⟨.pointer (some ⟨S, 0, none⟩), by have e0 : aa.tmps.getD 9 undef = .pointer (some ⟨S, 0, none⟩) := cc.slot 0 9 (by kernel_rfl) rfl; simp only [execOp, Act.eval, e0]; go_simp, rfl⟩)
    | 2, _ => exact mstep_pure rfl (mwant_none rfl) (fun aa ww cc => ⟨.pointer (some ⟨S, 0, none⟩), by have e0 : aa.tmps.getD 10 undef = .pointer (some ⟨S, 0, none⟩) := cc.slot 1 10 (by kernel_rfl) rfl; simp only [execOp, Act.eval, e0]; go_simp, rfl⟩)
    | 3, _ => exact mstep_pure rfl (mwant_none rfl) (fun aa ww cc => ⟨.slice (some ⟨g, 0, none⟩) n (c1 0), by have e0 : aa.tmps.getD 11 undef = .pointer (some ⟨S, 0, none⟩) := cc.slot 2 11 (by kernel_rfl) rfl; have q := C0.out _ cc.below; simp only [execOp, Act.eval, e0]; go_simp, rfl⟩)
    | 4, _ => exact mstep_first rfl (mwant_none rfl) 1 (Or.inl rfl) (by kernel_rfl) (fun _ _ => rfl)
    | 5, _ => exact mstep_pure rfl (mwant_none rfl) (fun aa ww cc => ⟨.agg #[.int .i64 oc, .int .i64 ov, .bool ow], by have e0 : aa.tmps.getD 5 undef = .pointer (some ⟨b, 0, none⟩) := (cc.orig 5 (by kernel_rfl)).trans rfl; obtain ⟨q0, q1, q2⟩ := BX.out _ cc.below; simp only [execOp, Act.eval, e0]; go_simp, rfl⟩)
    | 6, _ => exact mstep_pure rfl (mwant_none rfl) (fun aa ww cc => ⟨.pointer (some ⟨g, p * 8, none⟩), by have e0 : aa.tmps.getD 12 undef = .slice (some ⟨g, 0, none⟩) n (c1 0) := cc.slot 3 12 (by kernel_rfl) rfl; have e1 : aa.tmps.getD 13 undef = .int .i64 (p : Int) := cc.slot 4 13 (by kernel_rfl) rfl; simp only [execOp, Act.eval, e0, e1]; go_simp, rfl⟩)
    | 7, _ => exact mstep_pure rfl (mwant_none rfl) (fun aa ww cc => ⟨.pointer (some ⟨g, p * 8 + 2, none⟩), by have e0 : aa.tmps.getD 15 undef = .pointer (some ⟨g, p * 8, none⟩) := cc.slot 6 15 (by kernel_rfl) rfl; simp only [execOp, Act.eval, e0]; go_simp, rfl⟩)
    | n + 8, h => exact absurd h (by show ¬ (n + 8 < 8); omega)
  · intro VV w5 hlen hb5 hok
    match VV, hlen with
    | [v0, v1, v2, v3, v4, v5, v6, v7], _ =>
      obtain rfl : v0 = .pointer (some ⟨S, 0, none⟩) := hok 0 9 rfl
      obtain rfl : v1 = .pointer (some ⟨S, 0, none⟩) := hok 1 10 rfl
      obtain rfl : v2 = .pointer (some ⟨S, 0, none⟩) := hok 2 11 rfl
      obtain rfl : v3 = .slice (some ⟨g, 0, none⟩) n (c1 0) := hok 3 12 rfl
      obtain rfl : v4 = .int .i64 (p : Int) := hok 4 13 rfl
      obtain rfl : v5 = .agg #[.int .i64 oc, .int .i64 ov, .bool ow] := hok 5 14 rfl
      obtain rfl : v6 = .pointer (some ⟨g, p * 8, none⟩) := hok 6 15 rfl
      obtain rfl : v7 = .pointer (some ⟨g, p * 8 + 2, none⟩) := hok 7 16 rfl
      have H3 : Hid (SetM w5 S (leave P p) A1 c1) := Lib.hid (H2.out.below hb5)
      have HF3 : Hid (FrS S A w A1 w5) := Lib.hid (HF2.out.trans (FrS.below hb5))
      clear H2 HF2 C0 BX hok
      simp only [List.zip_cons_cons, List.zip_nil_right, putsL]
      go_simp
      go_wp2_with ((with_reducible show wpList _ _ _ (Oper.mk _ (Op.store _ _ _) _ _ _ _ :: _) _ _); refine wpList_storeLast rfl _ _ rfl H3 HF3 ⟨oc, ov, ow⟩ HP2.out HA rfl rfl ?_)
      intro w6 H4 HF4
      clear H3 HF3
      go_wp2_with fail
      refine (wake_calls w6 S _ A1 c1 H4.out (by rw [ps_setP, leave_n]; exact HW.out.n) (by show (leave P p).ready.length ≤ 1000; rw [leave_ready]; have := without_le P.ready p; have := HW.out.rd; omega) p (by rw [ps_setP]; exact HP2.out)).mono ?_
      rintro e w7 ⟨rfl, A2, c2, h7, hf7⟩
      have H7 := Lib.hid h7
      have HF7 := Lib.hid (HF4.out.trans hf7)
      clear h7 hf7
      go_wp2
      exact bodyPost_ret (v := .tuple #[]) (by simp [results, Try.results31, go_sem]) rfl ⟨rfl, A2, c2, H7.out, HF7.out⟩
end Go.Proofs.Ytgeffkdobnipgaa
