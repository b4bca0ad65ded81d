/- The document's answer for layer 7: List. -/
import Derived.Test.YtlecpekgnlaneaaDoorPvmRest
import Derived.Test.YtlecpekgnlaneaaDoorPvmFits
import Derived.Test.YtlecpekgnlaneaaDoorRow
import Derived.Test.YtlecpekgnlaneaaDoorTail
import Derived.IntWalk
import Derived.Great.BuildSlice
namespace Nac
open Go Go.RowKit
section
variable {P : Program} {ops : Array Oper} {Q : Exit → Act → World → Prop} {D : Nat → Value → Prop} {J : (Nat → Bool) → World → Prop} {a0 : Act} {i : Nat} {o : Oper}
theorem vstep_run (ho : ops[i]? = some o) (hw : ∀ L a w, VCtx ops D J a0 i L a w → Region.wanted o (yielded ops a.tmps) = true)
    (h : ∀ L a w, VCtx ops D J a0 i L a w → ∃ v w', (execOp a.eval o).run P w = .ok (.value v) w' ∧ D i v ∧ J (upd L i) w') : VStep P ops Q D J a0 i := by
  intro o' ho' L a w c
  rw [ho] at ho'
  obtain rfl := Option.some.inj ho'
  rw [if_pos (hw L a w c)]
  obtain ⟨v, w', hr, hv, hj⟩ := h L a w c
  unfold Oper.wp
  rw [hr]
  exact ⟨v, rfl, hv, hj⟩
theorem vstep_build (ho : ops[i]? = some o) (hw : ∀ L a w, VCtx ops D J a0 i L a w → Region.wanted o (yielded ops a.tmps) = true) (hJ : ∀ L w, J L w → J (upd L i) w) (t : TypeId) (parts : Array (Nat × Operand)) (hop : o.op = .build t parts)
    (vals : Array (Nat × Value)) (cells : Array Value) (he : ∀ L a w, VCtx ops D J a0 i L a w → parts.map (fun x => (x.1, a.eval x.2)) = vals) (hb : P.built t vals.toList = some cells) (hD : D i (.agg cells)) : VStep P ops Q D J a0 i :=
  vstep_pure ho hw hJ fun L a w c => ⟨.agg cells, by
    have e := he L a w c
    unfold execOp
    simp only [hop, e, Sem.run_bind, run_build w t vals cells hb, Result.andThen_ok, Sem.run_pure], hD⟩
theorem run_exec_buildS {a : Act} {w w' : World} {v : Value} (t : TypeId) (n : Nat) (parts : Array (Nat × Operand)) (hop : o.op = .buildSlice t n parts) (vals : Array (Nat × Value)) (he : parts.map (fun x => (x.1, a.eval x.2)) = vals)
    (hr : (Instr.buildSlice t n vals).run P w = .ok v w') : (execOp a.eval o).run P w = .ok (.value v) w' := by
  unfold execOp
  simp only [hop, he, Sem.run_bind, hr, Result.andThen_ok, Sem.run_pure]
end
end Nac
namespace Go.Proofs.YtlecpekgnlaneaaDoor
open Go.RowKit Nac Nac.Pvm
/-- instructions in a row of the call's own -/
def insC (l : List Ins) : List Value := (l.map icells).flatten
theorem insC_len (l : List Ins) : (insC l).length = l.length * 4 := by
  unfold insC
  rw [flatten_len 4 _ (fun x hx => by obtain ⟨y, _, rfl⟩ := List.mem_map.1 hx; rfl), List.length_map, Nat.mul_comm]
theorem ins_len4 (l : List Ins) : ∀ x ∈ l.map icells, x.length = 4 := fun x hx => by obtain ⟨y, _, rfl⟩ := List.mem_map.1 hx; rfl
theorem rin_row {w : World} {A : Option Addr} {c : Nat} {l : List Ins} (h : Row w 41 4 A c l.length (insC l)) (hf : ∀ i ∈ l, i.fits) : RIn w w.heap.size A l := fun hn => by
  have hpos : 0 < l.length := List.length_pos_iff.2 hn
  obtain ⟨g, hA, hg, _, _⟩ := h.at (j := 0) (by rw [insC_len]; omega)
  refine ⟨g, 0, hA, hg, fun j hj => ?_⟩
  have hc : ∀ f (hf : f < 4), w.cell? ⟨g, 0 + j * 4 + f, none⟩ = some ((icells l[j])[f]'(by simpa [icells] using hf)) := fun f hf => by
    obtain ⟨hj', he⟩ := flat_get (ins_len4 l) (p := j) (f := f) (by simpa using hj) hf
    obtain ⟨g', hA', _, hc, _⟩ := h.at (j := j * 4 + f) hj'
    rw [hA] at hA'
    injection hA' with hA'
    injection hA' with hA'
    subst hA'
    rw [Nat.zero_add, hc]
    unfold insC
    rw [he]
    simp
  exact ⟨hc 0 (by decide), hc 1 (by decide), hc 2 (by decide), hc 3 (by decide), hf _ (List.getElem_mem hj)⟩
theorem Tryd.infoIns : (Tryd.prog.info? 41).map (fun i => (i.zero, i.size, i.bytes)) = some (some (.agg #[.int .u8 0, .int .u8 0, .int .u8 0, .int .u8 0]), 4, 4) := by kernel_rfl
theorem build_ins (w : World) (x0 x1 x2 x3 : Int) : (Instr.build 41 #[(0, .int .u8 x0), (1, .int .u8 x1), (2, .int .u8 x2), (3, .int .u8 x3)]).run Tryd.prog w = .ok (.agg #[.int .u8 x0, .int .u8 x1, .int .u8 x2, .int .u8 x3]) w := run_build w _ _ _ (by kernel_rfl)
theorem buildS_ins (w : World) (x0 x1 x2 x3 : Int) : (Instr.buildSlice 23 1 #[(0, .agg #[.int .u8 x0, .int .u8 x1, .int .u8 x2, .int .u8 x3])]).run Tryd.prog w = .ok (.slice (some ⟨w.heap.size, 0, none⟩) 1 1) (w.alloc (.cells #[.int .u8 x0, .int .u8 x1, .int .u8 x2, .int .u8 x3] 41)) := by
  obtain ⟨ti, hi, hz, hs1, hb1⟩ := info_parts Tryd.infoIns
  refine run_buildSlice w _ _ 1 _ _ ti _ Tryd.underlying23 hi hz (by rw [hs1]; decide) (by rw [hs1]; decide) ?_
  rw [hs1]; kernel_rfl
theorem insC_snoc (l : List Ins) (i : Ins) : insC (l ++ [i]) = insC l ++ icells i := by simp [insC]
/-- the new row's block: the old row's, or new -/
def NewK (w : World) (A A' : Option Addr) : Prop := ∀ k : Nat, A'.map (·.block) = some k → A.map (·.block) = some k ∨ w.heap.size ≤ k
/-- append of one instruction -/
theorem wpList_app_ins (w : World) {ops : Array Oper} {rest : List Oper} {o : Oper} {a : Act} {Q : Exit → Act → World → Prop} (hgd : o.guard = none) (s x : Operand)
    (ho : o.op = .call { callee := .builtin .append, args := #[s, x], argTypes := #[23, 23] })
    (A : Option Addr) (c n : Nat) (xs : List Value) (hs : a.eval s = .slice A n c) (hown : Row w 41 4 A c n xs)
    (g c2 : Nat) (i : Ins) (hx : a.eval x = .slice (some ⟨g, 0, none⟩) 1 c2) (hsrc : ∀ f v, (icells i)[f]? = some v → w.cell? ⟨g, f, none⟩ = some v)
    (hlen : n ≤ 1000000)
    (h : ∀ A' c' w', Row w' 41 4 A' c' (n + 1) (xs ++ icells i) → w.grownBy w' (A.map (·.block)) → NewK w A A' → wpList Tryd.prog ops Q rest (a.put o.dst (.slice A' (n + 1) c')) w') : wpList Tryd.prog ops Q (o :: rest) a w := by
  obtain ⟨ti, hi, hz, hs1, hb1⟩ := info_parts Tryd.infoIns
  have eb : Value.ownBlock (.slice A n c) = A.map (·.block) := by cases A <;> rfl
  obtain ⟨v', w', hr, h2, h3, _, h5⟩ := run_append_own_at (P := Tryd.prog) w 0 23 o.type 41 ti _ 4 4 Tryd.underlying23 hi hz hs1 hb1 rfl (by decide) _ n xs hown ⟨g, 0, none⟩ 1 c2 (icells i) rfl
    (fun j v hv => by
      have := hsrc j v hv
      simpa [Addr.add_mid] using this) (fun v hv => by
      simp only [icells, List.mem_cons, List.not_mem_nil, or_false] at hv
      rcases hv with rfl | rfl | rfl | rfl <;> rfl) (by unfold maxLen; omega) (by omega) (Nat.zero_le _)
  obtain ⟨A', c', rfl⟩ := own_form w' h2
  have eb' : Value.ownBlock (.slice A' (n + 1) c') = A'.map (·.block) := by cases A' <;> rfl
  rw [eb] at h3 h5
  rw [eb'] at h5
  have hK := h A' c' w' h2 h3 (fun k hk => by
    rcases h5 with h5 | h5
    · left; rw [← h5]; exact hk
    · right; rw [h5] at hk; injection hk with hk; omega)
  refine wpList_plain hgd fun K hKK => ?_
  unfold Oper.wp execOp
  simp only [ho, resolve, invoke, builtin, Sem.run_bind, Sem.run_pure, Result.andThen_ok, List.map_toArray, List.map_cons, List.map_nil, hs, hx, hr]
  exact hKK _ _ hK
def RetIns (w : World) (l : List Ins) (e : Ending) (w' : World) : Prop := ∃ A c, e = .returned (.slice A l.length c) ∧ RIn w' w'.heap.size A l ∧ Below w.heap.size w w'
def LsRel (w0 : World) (l : List UInt8) (s3 s4 : Value) (w : World) : Prop :=
  ∃ (i : Nat) (A : Option Addr) (c : Nat) (M : List Ins), i ≤ l.length / 4 ∧ s4 = .int .i64 ((4 * i : Nat) : Int) ∧ s3 = .slice A M.length c ∧ M = (insOf l).take i ∧ Row w 41 4 A c M.length (insC M) ∧ Below w0.heap.size w0 w ∧ (∀ k, A.map (·.block) = some k → w0.heap.size ≤ k)
set_option maxRecDepth 100000 in
set_option maxHeartbeats 2000000 in
theorem List_calls (w : World) (Ab : Option Addr) (c : Nat) (l : List UInt8) (h : RB w w.heap.size Ab l) (h8 : l.length ≤ 1000000) : Calls Tryd.prog 5 #[.slice Ab l.length c] w (RetIns w (insOf l)) := by
  have HRB := Lib.hid h
  obtain ⟨n, hn⟩ : ∃ n, n = l.length := ⟨_, rfl⟩
  have HN := Lib.hid hn
  rw [← hn] at h8 ⊢
  clear h hn
  go_enter Tryd.func5, Tryd.ntmps5
  go_wp2
  go_loopw [3, 4] (fun s3 s4 wr => LsRel w l s3 s4 wr) (fun _ s4 _ => n + 4 - (intOf s4).toNat)
  case atStart => exact ⟨0, none, 0, [], Nat.zero_le _, rfl, rfl, by simp, Row.nil _ _ _, Below.refl _ _, fun k hk => by cases hk⟩
  case round =>
    obtain ⟨i, A9, c9, M, hi, rfl, rfl, hM, hrow, hbel, hown⟩ := hrel
    have HM := Lib.hid hM
    have HROW := Lib.hid hrow
    have HBEL := Lib.hid hbel
    have HOWN := Lib.hid hown
    have HI : Hid (i ≤ l.length / 4) := Lib.hid hi
    have HML : Hid (M.length = i) := Lib.hid (by rw [hM, List.length_take, insOf_len]; omega)
    clear hM hrow hbel hown hi
    obtain ⟨kk, hkk⟩ : ∃ kk, kk = 4 * i := ⟨_, rfl⟩
    have HKK := Lib.hid hkk
    rw [← hkk]
    obtain ⟨m9, hm9⟩ : ∃ m9, m9 = M.length := ⟨_, rfl⟩
    have HM9 := Lib.hid hm9
    rw [← hm9]
    clear hkk hm9
    by_cases hlt : kk + 3 < n
    · have hkl : kk + 3 < l.length := by rw [← HN.out]; exact hlt
      obtain ⟨b, o, hA, hb, hc0⟩ := HRB.out.get (k := kk) (by omega)
      subst hA
      have hcell : ∀ j (hj : j < l.length), w.cell? ⟨b, o + j, none⟩ = some (.int .u8 ((l[j]).toNat : Int)) := fun j hj => by
        obtain ⟨b', o', hA', _, hc'⟩ := HRB.out.get hj
        injection hA' with hA'
        injection hA' with e1 e2
        rw [e1, e2]; exact hc'
      obtain ⟨x0, hx0⟩ : ∃ x0, x0 = (l[kk]'(by omega)).toNat := ⟨_, rfl⟩
      obtain ⟨x1, hx1⟩ : ∃ x1, x1 = (l[kk + 1]'(by omega)).toNat := ⟨_, rfl⟩
      obtain ⟨x2, hx2⟩ : ∃ x2, x2 = (l[kk + 2]'(by omega)).toNat := ⟨_, rfl⟩
      obtain ⟨x3, hx3⟩ : ∃ x3, x3 = (l[kk + 3]'(by omega)).toNat := ⟨_, rfl⟩
      have HX : Hid (insAt l i = ⟨x0, x1, x2, x3⟩) := Lib.hid (by
        unfold insAt
        rw [← HKK.out, hx0, hx1, hx2, hx3]
        simp [List.getD, (show kk < l.length by omega), (show kk + 1 < l.length by omega), (show kk + 2 < l.length by omega), hkl])
      have hbw : b < wr.heap.size := Nat.lt_of_lt_of_le hb HBEL.out.size
      have hcw : ∀ j (hj : j < l.length), wr.cell? ⟨b, o + j, none⟩ = some (.int .u8 ((l[j]).toNat : Int)) := fun j hj => (HBEL.out.cell (p := ⟨b, o + j, none⟩) hb).trans (hcell j hj)
      have MC : Hid (∀ (L : Nat → Bool) (w' : World), ((L 21 = false → w' = wr.drew) ∧ (L 21 = true → w' = wr.drew.alloc (.cells #[.int .u8 (x0 : Int), .int .u8 (x1 : Int), .int .u8 (x2 : Int), .int .u8 (x3 : Int)] 41))) → w'.cell? ⟨b, o + kk, none⟩ = some (.int .u8 (x0 : Int)) ∧ w'.cell? ⟨b, o + (kk + 1), none⟩ = some (.int .u8 (x1 : Int)) ∧ w'.cell? ⟨b, o + (kk + 2), none⟩ = some (.int .u8 (x2 : Int)) ∧ w'.cell? ⟨b, o + (kk + 3), none⟩ = some (.int .u8 (x3 : Int))) := Lib.hid fun L w' hj => by
        have hb' : Below wr.drew.heap.size wr.drew w' := by
          cases hL : L 21 with
          | false => rw [hj.1 hL]; exact Below.refl _ _
          | true => rw [hj.2 hL]; exact (Below.refl _ _).alloc (Nat.le_refl _) _
        have hq : ∀ j (hj : j < l.length), w'.cell? ⟨b, o + j, none⟩ = some (.int .u8 ((l[j]).toNat : Int)) := fun j hj => (hb'.cell (p := ⟨b, o + j, none⟩) hbw).trans (hcw j hj)
        rw [hx0, hx1, hx2, hx3]
        exact ⟨hq _ _, hq _ _, hq _ _, hq _ _⟩
      have KK : Hid ((kk : Int) + 3 < n ∧ n ≤ 1000000) := Lib.hid ⟨by omega, h8⟩
      obtain ⟨B9, hB9⟩ : ∃ B9, B9 = wr.heap.size := ⟨_, rfl⟩
      have HB9 := Lib.hid hB9
      clear hc0 hcell hcw hx0 hx1 hx2 hx3 hB9
      go_wp2_with fail
      refine region_tail 22 [.slice A9 m9 c9, .slice (some ⟨b, o, none⟩) n c, .int .i64 (kk : Int), .pointer (some ⟨b, o + kk, none⟩), .int .u8 (x0 : Int), .slice (some ⟨b, o, none⟩) n c, .int .i64 (kk : Int), .int .i64 ((kk : Int) + 1), .pointer (some ⟨b, o + (kk + 1), none⟩), .int .u8 (x1 : Int), .slice (some ⟨b, o, none⟩) n c, .int .i64 (kk : Int), .int .i64 ((kk : Int) + 2), .pointer (some ⟨b, o + (kk + 2), none⟩), .int .u8 (x2 : Int), .slice (some ⟨b, o, none⟩) n c, .int .i64 (kk : Int), .int .i64 ((kk : Int) + 3), .pointer (some ⟨b, o + (kk + 3), none⟩), .int .u8 (x3 : Int), .agg #[.int .u8 (x0 : Int), .int .u8 (x1 : Int), .int .u8 (x2 : Int), .int .u8 (x3 : Int)], .slice (some ⟨B9, 0, none⟩) 1 1] [some 12, some 13, some 14, some 15, some 16, some 17, some 18, some 19, some 20, some 21, some 22, some 23, some 24, some 25, some 26, some 27, some 28, some 29, some 30, some 31, some 32, some 33] (fun L w' => (L 21 = false → w' = wr.drew) ∧ (L 21 = true → w' = wr.drew.alloc (.cells #[.int .u8 (x0 : Int), .int .u8 (x1 : Int), .int .u8 (x2 : Int), .int .u8 (x3 : Int)] 41))) (by kernel_rfl) (by kernel_rfl) (by kernel_rfl) (by kernel_rfl) rfl rfl ⟨fun _ => rfl, fun e => (by cases e)⟩ (fun ii hii => ?_) ?_
      · match ii, hii with
        | 0, _ => exact vstep_first rfl (vwant_none rfl) (fun _ _ h => h) 3 (Or.inl rfl) (by kernel_rfl) rfl
        | 1, _ => exact vstep_first rfl (vwant_none rfl) (fun _ _ h => h) 0 (Or.inl rfl) (by kernel_rfl) rfl
        | 2, _ => exact vstep_first rfl (vwant_none rfl) (fun _ _ h => h) 4 (Or.inl rfl) (by kernel_rfl) rfl
        | 3, _ => exact vstep_pure rfl (vwant_none rfl) (fun _ _ h => h) (fun LL aa ww cc => ⟨.pointer (some ⟨b, o + kk, none⟩), by have e0 : aa.tmps.getD 13 undef = .slice (some ⟨b, o, none⟩) n c := cc.slot 1 13 (by kernel_rfl) rfl; have e1 : aa.tmps.getD 14 undef = .int .i64 (kk : Int) := cc.slot 2 14 (by kernel_rfl) rfl; have q1 : (kk : Int) < n := (by have := KK.out; omega); simp only [execOp, Act.eval, e0, e1]; go_simp, rfl⟩)
        | 4, _ => exact vstep_pure rfl (vwant_none rfl) (fun _ _ h => h) (fun LL aa ww cc => ⟨.int .u8 (x0 : Int), by have e0 : aa.tmps.getD 15 undef = .pointer (some ⟨b, o + kk, none⟩) := cc.slot 3 15 (by kernel_rfl) rfl; obtain ⟨m0, m1, m2, m3⟩ := MC.out LL _ cc.world; simp only [execOp, Act.eval, e0]; go_simp, rfl⟩)
        | 5, _ => exact vstep_first rfl (vwant_none rfl) (fun _ _ h => h) 0 (Or.inl rfl) (by kernel_rfl) rfl
        | 6, _ => exact vstep_first rfl (vwant_none rfl) (fun _ _ h => h) 4 (Or.inl rfl) (by kernel_rfl) rfl
        | 7, _ => exact vstep_pure rfl (vwant_none rfl) (fun _ _ h => h) (fun LL aa ww cc => ⟨.int .i64 ((kk : Int) + 1), by have e0 : aa.tmps.getD 18 undef = .int .i64 (kk : Int) := cc.slot 6 18 (by kernel_rfl) rfl; have q1 : IntKind.i64.wrap ((kk : Int) + 1) = (kk : Int) + 1 := Go.IntWalk.i64_in _ (by have := KK.out; omega); simp only [execOp, Act.eval, e0]; go_simp, rfl⟩)
        | 8, _ => exact vstep_pure rfl (vwant_none rfl) (fun _ _ h => h) (fun LL aa ww cc => ⟨.pointer (some ⟨b, o + (kk + 1), none⟩), by have e0 : aa.tmps.getD 17 undef = .slice (some ⟨b, o, none⟩) n c := cc.slot 5 17 (by kernel_rfl) rfl; have e1 : aa.tmps.getD 19 undef = .int .i64 ((kk : Int) + 1) := cc.slot 7 19 (by kernel_rfl) rfl; have q1 : (kk : Int) + 1 < n := (by have := KK.out; omega); have q2 : 0 ≤ (kk : Int) + 1 := (by omega); have q3 : ((kk : Int) + 1).toNat = kk + 1 := (by omega); simp only [execOp, Act.eval, e0, e1]; go_simp, rfl⟩)
        | 9, _ => exact vstep_pure rfl (vwant_none rfl) (fun _ _ h => h) (fun LL aa ww cc => ⟨.int .u8 (x1 : Int), by have e0 : aa.tmps.getD 20 undef = .pointer (some ⟨b, o + (kk + 1), none⟩) := cc.slot 8 20 (by kernel_rfl) rfl; obtain ⟨m0, m1, m2, m3⟩ := MC.out LL _ cc.world; simp only [execOp, Act.eval, e0]; go_simp, rfl⟩)
        | 10, _ => exact vstep_first rfl (vwant_none rfl) (fun _ _ h => h) 0 (Or.inl rfl) (by kernel_rfl) rfl
        | 11, _ => exact vstep_first rfl (vwant_none rfl) (fun _ _ h => h) 4 (Or.inl rfl) (by kernel_rfl) rfl
        | 12, _ => exact vstep_pure rfl (vwant_none rfl) (fun _ _ h => h) (fun LL aa ww cc => ⟨.int .i64 ((kk : Int) + 2), by have e0 : aa.tmps.getD 23 undef = .int .i64 (kk : Int) := cc.slot 11 23 (by kernel_rfl) rfl; have q1 : IntKind.i64.wrap ((kk : Int) + 2) = (kk : Int) + 2 := Go.IntWalk.i64_in _ (by have := KK.out; omega); simp only [execOp, Act.eval, e0]; go_simp, rfl⟩)
        | 13, _ => exact vstep_pure rfl (vwant_none rfl) (fun _ _ h => h) (fun LL aa ww cc => ⟨.pointer (some ⟨b, o + (kk + 2), none⟩), by have e0 : aa.tmps.getD 22 undef = .slice (some ⟨b, o, none⟩) n c := cc.slot 10 22 (by kernel_rfl) rfl; have e1 : aa.tmps.getD 24 undef = .int .i64 ((kk : Int) + 2) := cc.slot 12 24 (by kernel_rfl) rfl; have q1 : (kk : Int) + 2 < n := (by have := KK.out; omega); have q2 : 0 ≤ (kk : Int) + 2 := (by omega); have q3 : ((kk : Int) + 2).toNat = kk + 2 := (by omega); simp only [execOp, Act.eval, e0, e1]; go_simp, rfl⟩)
        | 14, _ => exact vstep_pure rfl (vwant_none rfl) (fun _ _ h => h) (fun LL aa ww cc => ⟨.int .u8 (x2 : Int), by have e0 : aa.tmps.getD 25 undef = .pointer (some ⟨b, o + (kk + 2), none⟩) := cc.slot 13 25 (by kernel_rfl) rfl; obtain ⟨m0, m1, m2, m3⟩ := MC.out LL _ cc.world; simp only [execOp, Act.eval, e0]; go_simp, rfl⟩)
        | 15, _ => exact vstep_first rfl (vwant_none rfl) (fun _ _ h => h) 0 (Or.inl rfl) (by kernel_rfl) rfl
        | 16, _ => exact vstep_first rfl (vwant_none rfl) (fun _ _ h => h) 4 (Or.inl rfl) (by kernel_rfl) rfl
        | 17, _ => exact vstep_pure rfl (vwant_none rfl) (fun _ _ h => h) (fun LL aa ww cc => ⟨.int .i64 ((kk : Int) + 3), by have e0 : aa.tmps.getD 28 undef = .int .i64 (kk : Int) := cc.slot 16 28 (by kernel_rfl) rfl; have q1 : IntKind.i64.wrap ((kk : Int) + 3) = (kk : Int) + 3 := Go.IntWalk.i64_in _ (by have := KK.out; omega); simp only [execOp, Act.eval, e0]; go_simp, rfl⟩)
        | 18, _ => exact vstep_pure rfl (vwant_none rfl) (fun _ _ h => h) (fun LL aa ww cc => ⟨.pointer (some ⟨b, o + (kk + 3), none⟩), by have e0 : aa.tmps.getD 27 undef = .slice (some ⟨b, o, none⟩) n c := cc.slot 15 27 (by kernel_rfl) rfl; have e1 : aa.tmps.getD 29 undef = .int .i64 ((kk : Int) + 3) := cc.slot 17 29 (by kernel_rfl) rfl; have q1 : (kk : Int) + 3 < n := (by have := KK.out; omega); have q2 : 0 ≤ (kk : Int) + 3 := (by omega); have q3 : ((kk : Int) + 3).toNat = kk + 3 := (by omega); simp only [execOp, Act.eval, e0, e1]; go_simp, rfl⟩)
        | 19, _ => exact vstep_pure rfl (vwant_none rfl) (fun _ _ h => h) (fun LL aa ww cc => ⟨.int .u8 (x3 : Int), by have e0 : aa.tmps.getD 30 undef = .pointer (some ⟨b, o + (kk + 3), none⟩) := cc.slot 18 30 (by kernel_rfl) rfl; obtain ⟨m0, m1, m2, m3⟩ := MC.out LL _ cc.world; simp only [execOp, Act.eval, e0]; go_simp, rfl⟩)
        | 20, _ => exact vstep_build rfl (vwant_none rfl) (fun _ _ h => h) _ _ rfl #[(0, .int .u8 (x0 : Int)), (1, .int .u8 (x1 : Int)), (2, .int .u8 (x2 : Int)), (3, .int .u8 (x3 : Int))] #[.int .u8 (x0 : Int), .int .u8 (x1 : Int), .int .u8 (x2 : Int), .int .u8 (x3 : Int)] (fun LL aa ww cc => by have e0 : aa.eval (.tmp 16) = .int .u8 (x0 : Int) := cc.slot 4 16 (by kernel_rfl) rfl; have e1 : aa.eval (.tmp 21) = .int .u8 (x1 : Int) := cc.slot 9 21 (by kernel_rfl) rfl; have e2 : aa.eval (.tmp 26) = .int .u8 (x2 : Int) := cc.slot 14 26 (by kernel_rfl) rfl; have e3 : aa.eval (.tmp 31) = .int .u8 (x3 : Int) := cc.slot 19 31 (by kernel_rfl) rfl; simp only [List.map_toArray, List.map_cons, List.map_nil, e0, e1, e2, e3]) (by kernel_rfl) rfl
        | 21, _ => exact vstep_run rfl (vwant_none rfl) (fun LL aa ww cc => by have e0 : aa.eval (.tmp 32) = .agg #[.int .u8 (x0 : Int), .int .u8 (x1 : Int), .int .u8 (x2 : Int), .int .u8 (x3 : Int)] := cc.slot 20 32 (by kernel_rfl) rfl; have ew := cc.world.1 cc.fresh; refine ⟨.slice (some ⟨B9, 0, none⟩) 1 1, wr.drew.alloc (.cells #[.int .u8 (x0 : Int), .int .u8 (x1 : Int), .int .u8 (x2 : Int), .int .u8 (x3 : Int)] 41), ?_, rfl, ⟨fun e => (by cases e), fun _ => rfl⟩⟩; rw [ew, HB9.out]; exact run_exec_buildS _ _ _ rfl #[(0, .agg #[.int .u8 (x0 : Int), .int .u8 (x1 : Int), .int .u8 (x2 : Int), .int .u8 (x3 : Int)])] (by simp only [List.map_toArray, List.map_cons, List.map_nil, e0]) (buildS_ins _ _ _ _ _))
        | n + 22, h => exact absurd h (by show ¬ (n + 22 < 22); omega)
      · intro L5 w5 hall hJ
        obtain rfl := hJ.2 (hall 21 (by decide))
        have hbA : Below wr.heap.size wr (wr.drew.alloc (.cells #[.int .u8 (x0 : Int), .int .u8 (x1 : Int), .int .u8 (x2 : Int), .int .u8 (x3 : Int)] 41)) := ((Below.refl _ _).drew).alloc (Nat.le_refl _) _
        have HR5 : Hid (Row (wr.drew.alloc (.cells #[.int .u8 (x0 : Int), .int .u8 (x1 : Int), .int .u8 (x2 : Int), .int .u8 (x3 : Int)] 41)) 41 4 A9 c9 m9 (insC M)) := Lib.hid (by rw [HM9.out]; exact HROW.out.below hbA)
        have HSRC : Hid (∀ f v, (icells ⟨x0, x1, x2, x3⟩)[f]? = some v → (wr.drew.alloc (.cells #[.int .u8 (x0 : Int), .int .u8 (x1 : Int), .int .u8 (x2 : Int), .int .u8 (x3 : Int)] 41)).cell? ⟨B9, f, none⟩ = some v) := Lib.hid fun f v hv => by
          have hb9 : Blk (wr.drew.alloc (.cells #[.int .u8 (x0 : Int), .int .u8 (x1 : Int), .int .u8 (x2 : Int), .int .u8 (x3 : Int)] 41)) B9 [.int .u8 (x0 : Int), .int .u8 (x1 : Int), .int .u8 (x2 : Int), .int .u8 (x3 : Int)] := by rw [HB9.out]; exact Blk.new wr.drew _ _
          exact hb9.cell hv
        have HBA := Lib.hid hbA
        clear hJ hall hbA MC
        obtain ⟨w6, hw6⟩ : ∃ w6, w6 = wr.drew.alloc (.cells #[.int .u8 (x0 : Int), .int .u8 (x1 : Int), .int .u8 (x2 : Int), .int .u8 (x3 : Int)] 41) := ⟨_, rfl⟩
        rw [← hw6] at HR5 HSRC HBA ⊢
        clear hw6
        have hm9 : m9 ≤ 1000000 := by have := HI.out; have := HML.out; have := HM9.out; have := HN.out; omega
        simp only [List.zip_cons_cons, List.zip_nil_right, putsL]
        go_simp
        go_wp2_with (at_builtin; refine wpList_app_ins w6 rfl _ _ rfl A9 c9 m9 (insC M) rfl HR5.out B9 _ ⟨x0, x1, x2, x3⟩ rfl HSRC.out hm9 ?_)
        intro A2 c2 w7 hr7 hg7 hn7
        have HF : Hid (LsRel w l (.slice A2 (m9 + 1) c2) (.int .i64 ((4 * (i + 1) : Nat) : Int)) w7) := Lib.hid (by
          have hil : i < (insOf l).length := by rw [insOf_len]; have := HKK.out; omega
          have hins : (insOf l)[i] = ⟨x0, x1, x2, x3⟩ := by rw [← HX.out]; simp [insOf]
          have hlen : (M ++ [(⟨x0, x1, x2, x3⟩ : Ins)]).length = m9 + 1 := by simp [HM9.out]
          refine ⟨i + 1, A2, c2, M ++ [⟨x0, x1, x2, x3⟩], by rw [insOf_len] at hil; omega, rfl, by rw [hlen], ?_, ?_, ?_, ?_⟩
          · rw [List.take_succ_eq_append_getElem hil, hins, HM.out]
          · rw [hlen, insC_snoc]; exact hr7
          · refine (HBEL.out.trans (HBA.out.mono HBEL.out.size)).grown hg7 (Nat.le_trans HBEL.out.size HBA.out.size) (fun j e => HOWN.out j e)
          · intro k hk
            rcases hn7 k hk with h | h
            · exact HOWN.out k h
            · have := HBA.out.size; have := HBEL.out.size; omega)
        have e4 : (4 * (i + 1) : Nat) = kk + 4 := by rw [HKK.out]; omega
        rw [e4] at HF
        clear e4 hr7 hg7 hn7 HR5 HSRC HBA HROW HBEL HOWN HM HX HI HML HM9 HKK
        go_wp2
        go_roundw
        case rel => first | exact HF.out | (have e5 : ((kk : Int) + 4) = ((kk + 4 : Nat) : Int) := by omega
                                            rw [e5]; exact HF.out)
        case measure => simp [intOf]; omega
    · have hi : i = l.length / 4 := by have := HI.out; have := HKK.out; have := HN.out; omega
      have hMe : M = insOf l := by rw [HM.out, List.take_of_length_le (by rw [insOf_len]; omega)]
      have HME := Lib.hid hMe
      have hlt' : ¬ (kk : Int) + 3 < n := by omega
      have hk6 : kk ≤ 1000000 := by have := HKK.out; have := HN.out; omega
      clear hi hMe
      go_wp2
      go_ret
      have e9 : m9 = (insOf l).length := by rw [HM9.out, HME.out]
      refine ⟨A9, c9, by rw [← e9]; rfl, ?_, HBEL.out⟩
      have := HROW.out
      rw [HME.out] at this
      exact rin_row this (insOf_fits l)
end Go.Proofs.YtlecpekgnlaneaaDoor
