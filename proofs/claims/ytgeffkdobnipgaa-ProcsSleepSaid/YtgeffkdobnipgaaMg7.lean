/- Bundle 7 of the texts ProcTick, AppN, ProcNew, ProcEq, ProcAwake, RefMem. -/
import Derived.Test.YtgeffkdobnipgaaMg6
import Derived.Test.YtgeffkdobnipgaaMg3
import Derived.Test.YtgeffkdobnipgaaMg5
import Derived.Laws.StructEq
import Derived.ChangeKeysEq
/- procs: Tick. -/
namespace Go.Proofs.Ytgeffkdobnipgaa
open Go.RowKit Nac Nac.Procs
/-- all stays but the set's own blocks and those that are new -/
theorem FrS.bump {S b : Nat} {A A' : Nat → Option Addr} {w0 w w' : World} (h : FrS S A w0 A' w) (hg : w.grownBy w' (some b)) (hb : w0.heap.size ≤ b) : FrS S A w0 A' w' :=
  ⟨hg.os.trans h.os, hg.tape.trans h.tape, hg.output.trans h.output, Nat.le_trans h.size hg.size, fun k hk hf => by
    rw [hg.block k (Nat.lt_of_lt_of_le hk h.size) (fun e => by injection e with e; omega)]
    exact h.block k hk hf, h.foot, h.p0, h.p1⟩
theorem s1Errno : (Try.prog.info? 25).map (·.size) = some 1 := by kernel_rfl
def TickRel (w : World) (S : Nat) (P : PSet) (A : Nat → Option Addr) (k : Nat) (wr : World) : Prop := ∃ A' c', SetM wr S (tickTo P k) A' c' ∧ FrS S A w A' wr
theorem tick1_idle {P : PSet} {p : Nat} (h : (P.proc p).st ≠ 2) : tick1 P p = P := by unfold tick1; rw [if_neg h]
theorem tick1_less {P : PSet} {p : Nat} (h : (P.proc p).st = 2) (hl : 0 < (P.proc p).left - 1) : tick1 P p = P.setP p { P.proc p with left := (P.proc p).left - 1 } := by unfold tick1; rw [if_pos h, if_pos hl]
theorem tick1_time {P : PSet} {p : Nat} (h : (P.proc p).st = 2) (hl : ¬ 0 < (P.proc p).left - 1) (hr : (P.proc p).res = -1) : tick1 P p = release (P.setP p { P.proc p with left := (P.proc p).left - 1 }) p ⟨0, 0, false⟩ := by unfold tick1; rw [if_pos h, if_neg hl, if_pos hr]; rfl
theorem tick1_over {P : PSet} {p : Nat} (h : (P.proc p).st = 2) (hl : ¬ 0 < (P.proc p).left - 1) (hr : (P.proc p).res ≠ -1) : tick1 P p = release (P.setP p { P.proc p with left := (P.proc p).left - 1 }) p ⟨131, 0, false⟩ := by unfold tick1; rw [if_pos h, if_neg hl, if_neg hr]; rfl
theorem Wf.setP {P : PSet} {k p : Nat} {y : Prc} (h : Wf P k) (h1 : y.st = (P.proc p).st) (h2 : y.res = (P.proc p).res) : Wf (P.setP p y) k :=
  ⟨by rw [ps_setP]; exact h.n, h.m, h.rd, h.q, fun q h3 h4 => by
    by_cases e : q = p
    · subst e
      by_cases hq : q < P.ps.length
      · rw [proc_setP hq] at h3 h4 ⊢
        rw [h1] at h3
        rw [h2] at h4 ⊢
        exact h.res q h3 h4
      · rw [proc_out (by rw [ps_setP]; omega)] at h3; exact absurd h3 (by decide)
    · rw [proc_setP_ne e] at h3 h4 ⊢
      exact h.res q h3 h4⟩
set_option maxRecDepth 100000 in
set_option maxHeartbeats 1000000 in
theorem Tick_calls (w : World) (S : Nat) (P : PSet) (A : Nat → Option Addr) (c : Nat → Nat) (h : SetM w S P A c) (hI : Inv P) :
    Calls Try.prog 21 #[.pointer (some ⟨S, 0, none⟩)] w (RetSet w S A (.tuple #[]) (tickS P)) := by
  obtain ⟨n, hn⟩ : ∃ n, n = P.ps.length := ⟨_, rfl⟩
  obtain ⟨g, hA, _⟩ := h.pcell (p := 0) hI.n1
  have c0 := h.head0 hA hn
  have hn8 : n ≤ 1000 := by rw [hn]; exact hI.wf.n
  have HS0 : Hid (TickRel w S P A 0 w) := Lib.hid ⟨A, c, h, FrS.refl S A w⟩
  have HI := Lib.hid hI
  have HA := Lib.hid hA
  have HN := Lib.hid hn
  clear h hI hn hA
  go_enter Try.func21, Try.ntmps21
  go_wp2
  clear c0
  go_loopw [10] (fun i wr => ∃ k : Nat, k ≤ n ∧ i = .int .i64 k ∧ TickRel w S P A k wr) (fun i _ => n - (intOf i).toNat)
  case atStart => exact ⟨0, Nat.zero_le _, rfl, HS0.out⟩
  case round =>
    obtain ⟨k, hk, rfl, A', c', hm, hf⟩ := hrel
    have HM := Lib.hid hm
    have HF := Lib.hid hf
    by_cases hlt : k < n
    · obtain ⟨hik, hnk⟩ := tickTo_inv HI.out k (by rw [← HN.out]; exact hk)
      obtain ⟨Pk, hPk⟩ : ∃ X, X = tickTo P k := ⟨_, rfl⟩
      rw [← hPk] at hik hnk HM hm
      have hkp : k < Pk.ps.length := by rw [hnk, ← HN.out]; exact hlt
      have hA' : A' 0 = some ⟨g, 0, none⟩ := hf.p0.trans HA.out
      have c0 : wr.cell? ⟨S, 0, none⟩ = some (.slice (some ⟨g, 0, none⟩) n (c' 0)) := hm.head0 hA' (by rw [hnk, ← HN.out])
      obtain ⟨st, hst⟩ : ∃ x, x = (Pk.proc k).st := ⟨_, rfl⟩
      obtain ⟨lf, hlf⟩ : ∃ x, x = (Pk.proc k).left := ⟨_, rfl⟩
      obtain ⟨rs, hrs⟩ : ∃ x, x = (Pk.proc k).res := ⟨_, rfl⟩
      have c1 : wr.cell? ⟨g, k * 8 + 1, none⟩ = some (.int .i64 st) := by rw [hst]; exact hm.pget (f := 1) hkp hA' rfl
      have c5 : wr.cell? ⟨g, k * 8 + 5, none⟩ = some (.int .i64 rs) := by rw [hrs]; exact hm.pget (f := 5) hkp hA' rfl
      have c6 : wr.cell? ⟨g, k * 8 + 6, none⟩ = some (.int .i64 lf) := by rw [hlf]; exact hm.pget (f := 6) hkp hA' rfl
      have HTS : Hid (tickTo P (k + 1) = tick1 Pk k) := Lib.hid (by rw [tickTo_succ, ← hPk])
      have HA' := Lib.hid hA'
      have HKP := Lib.hid hkp
      have HIK := Lib.hid hik
      have HLF := Lib.hid hlf
      by_cases hs : st = 2
      · have hl1 := hik.left k hkp (by rw [← hst, hs]) (by simp)
        have hb1 : 1 ≤ lf := by rw [hlf]; exact hl1.1
        have hb2 : lf ≤ 1048576 := by rw [hlf]; exact hl1.2
        have HST : Hid ((Pk.proc k).st = 2) := Lib.hid (by rw [← hst, hs])
        have HRS := Lib.hid hrs
        subst hs
        clear hm hf hik hnk hkp hA' hst hlf hrs hPk hl1 HS0
        go_wp2_with ((with_reducible show wpList _ _ _ (Oper.mk _ (Op.store _ _ _) _ _ _ _ :: _) _ _); refine wpList_storeP rfl 3 _ _ rfl HM HF 6 (.int .i64 (lf - 1)) HKP.out HA' (by decide) { Pk.proc k with left := (Pk.proc k).left - 1 } (by rw [HLF.out]; rfl) rfl rfl s1Int rfl ?_)
        intro w2 H2 HF2
        obtain ⟨P2, hP2⟩ : ∃ X, X = Pk.setP k { Pk.proc k with left := (Pk.proc k).left - 1 } := ⟨_, rfl⟩
        rw [← hP2] at H2
        have hkp2 : k < P2.ps.length := by rw [hP2, ps_setP]; exact HKP.out
        have hpp : P2.proc k = { Pk.proc k with left := (Pk.proc k).left - 1 } := by rw [hP2, proc_setP HKP.out]
        have d6 : w2.cell? ⟨g, k * 8 + 6, none⟩ = some (.int .i64 (lf - 1)) := by rw [HLF.out]; exact H2.out.pget (f := 6) hkp2 HA'.out (by rw [hpp]; rfl)
        have d5 : w2.cell? ⟨g, k * 8 + 5, none⟩ = some (.int .i64 rs) := by rw [HRS.out]; exact H2.out.pget (f := 5) hkp2 HA'.out (by rw [hpp]; rfl)
        have HP2 := Lib.hid hP2
        have HKP2 := Lib.hid hkp2
        have HW2 : Hid (Wf P2 999) := Lib.hid (by rw [hP2]; exact Wf.setP (HIK.out.wf.mono (by decide)) rfl rfl)
        clear c0 c1 c5 c6 hP2 hkp2 hpp HM HF
        by_cases hl : 0 < lf - 1
        · have HT : Hid (tick1 Pk k = P2) := Lib.hid (by rw [HP2.out]; exact tick1_less HST.out (by rw [← HLF.out]; exact hl))
          have HR : Hid (TickRel w S P A (k + 1) w2) := Lib.hid ⟨A', c', by rw [HTS.out, HT.out]; exact H2.out, HF2.out⟩
          clear H2 HF2
          go_wp2
          go_roundw
          case rel => exact ⟨k + 1, by omega, by go_num, HR.out⟩
          case measure => simp [intOf]; omega
        · have HLN := Lib.hid hl
          by_cases hr : rs = -1
          · have HT : Hid (tick1 Pk k = release P2 k ⟨0, 0, false⟩) := Lib.hid (by rw [HP2.out]; exact tick1_time HST.out (by rw [← HLF.out]; exact HLN.out) (by rw [← HRS.out]; exact hr))
            have HWS : Hid (w.heap.size ≤ w2.heap.size) := Lib.hid HF2.out.size
            subst hr
            go_wp2_with ((with_reducible show wpList _ _ _ (Oper.mk _ (Op.alloc 37) _ _ _ _ :: _) _ _); refine wpList_allocS _ zOut rfl rfl ?_)
            intro w3 hb3 hg3 hs3
            obtain ⟨b, hbe⟩ : ∃ b, b = w2.heap.size := ⟨_, rfl⟩
            rw [← hbe] at hb3 ⊢
            have HB3 := Lib.hid hb3
            have H3 : Hid (SetM w3 S P2 A' c') := Lib.hid (H2.out.apart hg3 fun k e => by cases e)
            have HF3 : Hid (FrS S A w A' w3) := Lib.hid (HF2.out.trans (FrS.grown hg3 fun k e => by cases e))
            have HNF : Hid (¬ Foot S A' b) := Lib.hid (H2.out.notFoot (by rw [hbe]; exact Nat.le_refl _))
            have HWB : Hid (w.heap.size ≤ b) := Lib.hid (by rw [hbe]; exact HWS.out)
            have e5 : w3.cell? ⟨g, k * 8 + 5, none⟩ = some (.int .i64 (-1)) := hg3.cell d5 (by simp)
            clear hb3 hg3 hs3 hbe H2 HF2 d5 d6
            go_wp2_with ((with_reducible show wpList _ _ _ (Oper.mk _ (Op.store 37 _ _) _ _ _ _ :: _) _ _); refine wpList_storeS sOut rfl _ _ rfl b [.int .i64 0, .int .i64 0, .bool false] (ocs (errO 131)) rfl rfl HB3.out rfl rfl (ocs_one _) ?_)
            intro w4 hb4 hg4
            have HB4 : Hid (Blk w4 b [.int .i64 131, .int .i64 0, .bool false]) := Lib.hid hb4
            have H4 : Hid (SetM w4 S P2 A' c') := Lib.hid (H3.out.keepB hg4 HNF.out)
            have HF4 : Hid (FrS S A w A' w4) := Lib.hid (HF3.out.bump hg4 HWB.out)
            have f5 : w4.cell? ⟨g, k * 8 + 5, none⟩ = some (.int .i64 (-1)) := hg4.cell e5 (fun e => by injection e with e; exact HNF.out (.inr ⟨0, by rw [HA'.out]; exact congrArg some e⟩))
            clear hb4 hg4 H3 HF3 HB3 e5
            go_wp2_with ((with_reducible show wpList _ _ _ (Oper.mk _ (Op.store _ _ _) _ _ _ _ :: _) _ _); refine wpList_storeB rfl 25 _ _ rfl b 0 [.int .i64 131, .int .i64 0, .bool false] (.int .i64 0) rfl rfl HB4.out (Nat.succ_pos 2) s1Errno rfl ?_)
            intro w5 hb5 hg5
            have HB5 : Hid (Blk w5 b [.int .i64 0, .int .i64 0, .bool false]) := Lib.hid hb5
            have H5 : Hid (SetM w5 S P2 A' c') := Lib.hid (H4.out.keepB hg5 HNF.out)
            have HF5 : Hid (FrS S A w A' w5) := Lib.hid (HF4.out.bump hg5 HWB.out)
            clear hb5 hg5 H4 HF4 HB4 f5
            go_wp2_with (first | ((with_reducible show wpList _ _ _ (Oper.mk _ (Op.load 37 _) _ _ _ _ :: _) _ _); refine wpList_loadS sOut rfl _ rfl b [.int .i64 0, .int .i64 0, .bool false] rfl HB5.out rfl ?_) | fail)
            refine (release_calls w5 S P2 A' c' H5.out HW2.out k HKP2.out 0 0 false).mono ?_
            rintro e w7 ⟨rfl, A7, c7, h7, hf7⟩
            have HR : Hid (TickRel w S P A (k + 1) w7) := Lib.hid ⟨A7, c7, by rw [HTS.out, HT.out]; exact h7, HF5.out.trans hf7⟩
            clear h7 hf7 H5 HF5 HB5
            go_wp2
            go_roundw
            case rel => exact ⟨k + 1, by omega, by go_num, HR.out⟩
            case measure => simp [intOf]; omega
          · have hr1 : (rs == -1) = false := by simpa using hr
            have hr2 : (rs != -1) = true := by simpa using hr
            have HT : Hid (tick1 Pk k = release P2 k ⟨131, 0, false⟩) := Lib.hid (by rw [HP2.out]; exact tick1_over HST.out (by rw [← HLF.out]; exact HLN.out) (by rw [← HRS.out]; exact hr))
            have HWS : Hid (w.heap.size ≤ w2.heap.size) := Lib.hid HF2.out.size
            clear hr
            go_wp2_with ((with_reducible show wpList _ _ _ (Oper.mk _ (Op.alloc 37) _ _ _ _ :: _) _ _); refine wpList_allocS _ zOut rfl rfl ?_)
            intro w3 hb3 hg3 hs3
            obtain ⟨b, hbe⟩ : ∃ b, b = w2.heap.size := ⟨_, rfl⟩
            rw [← hbe] at hb3 ⊢
            have HB3 := Lib.hid hb3
            have H3 : Hid (SetM w3 S P2 A' c') := Lib.hid (H2.out.apart hg3 fun k e => by cases e)
            have HF3 : Hid (FrS S A w A' w3) := Lib.hid (HF2.out.trans (FrS.grown hg3 fun k e => by cases e))
            have HNF : Hid (¬ Foot S A' b) := Lib.hid (H2.out.notFoot (by rw [hbe]; exact Nat.le_refl _))
            have HWB : Hid (w.heap.size ≤ b) := Lib.hid (by rw [hbe]; exact HWS.out)
            have e5 : w3.cell? ⟨g, k * 8 + 5, none⟩ = some (.int .i64 rs) := hg3.cell d5 (by simp)
            clear hb3 hg3 hs3 hbe H2 HF2 d5 d6
            go_wp2_with ((with_reducible show wpList _ _ _ (Oper.mk _ (Op.store 37 _ _) _ _ _ _ :: _) _ _); refine wpList_storeS sOut rfl _ _ rfl b [.int .i64 0, .int .i64 0, .bool false] (ocs (errO 131)) rfl rfl HB3.out rfl rfl (ocs_one _) ?_)
            intro w4 hb4 hg4
            have HB4 : Hid (Blk w4 b [.int .i64 131, .int .i64 0, .bool false]) := Lib.hid hb4
            have H4 : Hid (SetM w4 S P2 A' c') := Lib.hid (H3.out.keepB hg4 HNF.out)
            have HF4 : Hid (FrS S A w A' w4) := Lib.hid (HF3.out.bump hg4 HWB.out)
            have f5 : w4.cell? ⟨g, k * 8 + 5, none⟩ = some (.int .i64 rs) := hg4.cell e5 (fun e => by injection e with e; exact HNF.out (.inr ⟨0, by rw [HA'.out]; exact congrArg some e⟩))
            clear hb4 hg4 H3 HF3 HB3 e5
            go_wp2_with (first | ((with_reducible show wpList _ _ _ (Oper.mk _ (Op.load 37 _) _ _ _ _ :: _) _ _); refine wpList_loadS sOut rfl _ rfl b [.int .i64 131, .int .i64 0, .bool false] rfl HB4.out rfl ?_) | fail)
            refine (release_calls w4 S P2 A' c' H4.out HW2.out k HKP2.out 131 0 false).mono ?_
            rintro e w7 ⟨rfl, A7, c7, h7, hf7⟩
            have HR : Hid (TickRel w S P A (k + 1) w7) := Lib.hid ⟨A7, c7, by rw [HTS.out, HT.out]; exact h7, HF4.out.trans hf7⟩
            clear h7 hf7 H4 HF4 HB4 f5
            go_wp2
            go_roundw
            case rel => exact ⟨k + 1, by omega, by go_num, HR.out⟩
            case measure => simp [intOf]; omega
      · have hs1 : (st != 2) = true := by simpa using hs
        have hs2 : (st == 2) = false := by simpa using hs
        have HR : Hid (TickRel w S P A (k + 1) wr) := Lib.hid ⟨A', c', by rw [HTS.out, tick1_idle (by rw [← hst]; exact hs)]; exact HM.out, HF.out⟩
        clear hm hf hik hnk hkp hA' hst hlf hrs hPk HS0 hs HM HF
        go_wp2
        go_roundw
        case rel => exact ⟨k + 1, by omega, by go_num, HR.out⟩
        case measure => simp [intOf]; omega
    · have hkn : k = n := by omega
      have HR : Hid (RetSet w S A (.tuple #[]) (tickS P) (.returned (.tuple #[])) wr) := Lib.hid ⟨rfl, A', c', by unfold tickS; rw [← HN.out, ← hkn]; exact hm, hf⟩
      subst hkn
      clear hm hf HS0 HM HF
      go_wp2
      exact bodyPost_ret (v := .tuple #[]) (by simp [results, Try.results21, go_sem]) rfl HR.out
end Go.Proofs.Ytgeffkdobnipgaa
/- A region that draws its order and appends one element of several cells to a row, other operations in between. -/
namespace Nac
open Go Go.RowKit
section
variable {P : Program} {ops : Array Oper} {Q : Exit → Act → World → Prop} {R : (Nat → Bool) → World → World → Prop} {D : Nat → LD} {J : (Nat → Bool) → World → Prop} {a0 : Act} {i : Nat} {o : Oper}
theorem lstep_build (hrefl : ∀ L w, R L w w) (ho : ops[i]? = some o) (hw : ∀ L a w, LCtx ops R D J a0 i L a w → Region.wanted o (yielded ops a.tmps) = true) (hJ : ∀ L w, J L w → J (upd L i) w) (t : TypeId) (parts : Array (Nat × Operand)) (hop : o.op = .build t parts)
    (vals : Array (Nat × Value)) (cells : Array Value) (he : ∀ L a w, LCtx ops R D J a0 i L a w → parts.map (fun x => (x.1, a.eval x.2)) = vals) (hr : ∀ w, (Instr.build t vals).run P w = .ok (.agg cells) w) (hD : D i = .is (.agg cells)) : LStep P ops Q R D J a0 i :=
  lstep_pure hrefl ho hw hJ fun L a w c => ⟨.agg cells, by
    have e := he L a w c
    unfold execOp
    simp only [hop, e, Sem.run_bind, hr, Result.andThen_ok, Sem.run_pure], by rw [hD]; rfl⟩
end
def BuiltN (W : World) (us : List Value) (v : Value) (w : World) : Prop := ∃ g c2, v = .slice (some ⟨g, 0, none⟩) 1 c2 ∧ W.heap.size ≤ g ∧ g < w.heap.size ∧ ∀ j u, us[j]? = some u → w.cell? ⟨g, j, none⟩ = some u
end Nac
namespace Go.Proofs.Ytgeffkdobnipgaa
open Go.RowKit Nac
def AppedN (W : World) (E : TypeId) (size : Nat) (A : Option Addr) (n : Nat) (xs us : List Value) (v : Value) (w : World) : Prop := ∃ A' c', v = .slice A' (n + 1) c' ∧ Row w E size A' c' (n + 1) (xs ++ us) ∧ NewB W A A'
section
variable {W : World} {row : Option Nat} {ia : Nat}
theorem keep_builtN (i : Nat) (us : List Value) (hrow : ∀ k, row = some k → k < W.heap.size) : LD.keeps (AppR row ia) i (.pr (BuiltN W us)) := by
  rintro L v w w' _ ⟨g, c2, rfl, hg, hl, hc⟩ hr
  exact ⟨g, c2, rfl, hg, Nat.lt_of_lt_of_le hl hr.1.size, fun j u hu => (grown_cell hr.1 hl (fun e => by have := hrow g e.symm; omega)).trans (hc j u hu)⟩
theorem keep_appedN (E : TypeId) (size : Nat) (A : Option Addr) (n : Nat) (xs us : List Value) : LD.keeps (AppR row ia) ia (.pr (AppedN W E size A n xs us)) := by
  rintro L v w w' hl ⟨A', c', rfl, hrow, hn⟩ hr
  refine ⟨A', c', rfl, hrow.kept (hr.2 hl) ?_, hn⟩
  cases A' with
  | none => exact .inl rfl
  | some a => exact .inr (by simp)
end
section
variable {ops : Array Oper} {Q : Exit → Act → World → Prop} {D : Nat → LD} {a0 : Act} {i ia : Nat} {o : Oper} {W : World} {row : Option Nat}
theorem lstep_buildN {T E : TypeId} (hi : i ≠ ia) (ho : ops[i]? = some o) (hw : ∀ L a w, LCtx ops (AppR row ia) D (AppJ W row ia) a0 i L a w → Region.wanted o (yielded ops a.tmps) = true)
    (x : Tmp) (hop : o.op = .buildSlice T 1 #[(0, .tmp x)]) (us : List Value)
    (hr : ∀ w, (Instr.buildSlice T 1 #[(0, .agg us.toArray)]).run Try.prog w = .ok (.slice (some ⟨w.heap.size, 0, none⟩) 1 1) (w.alloc (.cells us.toArray E)))
    (hx : ∀ L a w, LCtx ops (AppR row ia) D (AppJ W row ia) a0 i L a w → a.tmps.getD x undef = .agg us.toArray) (hD : D i = .pr (BuiltN W us)) : LStep Try.prog ops Q (AppR row ia) D (AppJ W row ia) a0 i := by
  refine lstep_gen ho hw fun L a w c => ⟨.slice (some ⟨w.heap.size, 0, none⟩) 1 1, w.alloc (.cells us.toArray E), ?_, ?_, ?_, ?_⟩
  · have e := hx L a w c
    unfold execOp
    simp only [hop, List.map_toArray, List.map_cons, List.map_nil, Act.eval, e, Sem.run_bind, hr, Result.andThen_ok, Sem.run_pure]
  · rw [hD]
    have hb := Blk.new w us E
    exact ⟨w.heap.size, 1, rfl, c.world.1.size, hb.lt, fun j u hu => hb.cell hu⟩
  · exact ⟨World.grownBy_alloc w _ _, fun _ => World.grownBy_alloc w _ _⟩
  · exact AppJ.pure hi L _ ⟨c.world.1.trans (World.grownBy_alloc w _ _), fun e => (c.world.2 e).trans (World.grownBy_alloc w _ _)⟩
theorem lstep_appN {T E : TypeId} {z : Value} {size bytes : Nat} (hT : Try.prog.underlying T = some (.slice E)) (hinfo : (Try.prog.info? E).map (fun i => (i.zero, i.size, i.bytes)) = some (some z, size, bytes)) (hz1 : z.cells.size = size) (hsz : 0 < size) (hby : bytes ≤ 1000)
    (ho : ops[ia]? = some o) (hw : ∀ L a w, LCtx ops (AppR row ia) D (AppJ W row ia) a0 ia L a w → Region.wanted o (yielded ops a.tmps) = true) (s x : Tmp)
    (hop : o.op = .call { callee := .builtin .append, args := #[.tmp s, .tmp x], argTypes := #[T, T] })
    (A : Option Addr) (c n : Nat) (xs us : List Value) (hrA : row = A.map (·.block)) (hown : Row W E size A c n xs) (hul : us.length = size) (hu1 : ∀ u ∈ us, u.oneCell' = true) (hlen : n ≤ 1000000)
    (hs : ∀ L a w, LCtx ops (AppR row ia) D (AppJ W row ia) a0 ia L a w → a.tmps.getD s undef = .slice A n c)
    (hx : ∀ L a w, LCtx ops (AppR row ia) D (AppJ W row ia) a0 ia L a w → BuiltN W us (a.tmps.getD x undef) w) (hD : D ia = .pr (AppedN W E size A n xs us)) : LStep Try.prog ops Q (AppR row ia) D (AppJ W row ia) a0 ia := by
  subst hrA
  refine lstep_gen ho hw fun L a w cc => ?_
  have hmul : (n + 1) * bytes ≤ (n + 1) * 1000 := Nat.mul_le_mul_left _ hby
  obtain ⟨g, c2, hxv, hg, hgl, hsrc⟩ := hx L a w cc
  have hgn := cc.world.2 cc.fresh
  have hown2 : Row w E size A c n xs := hown.kept hgn (by
    cases A with
    | none => exact .inl rfl
    | some a => exact .inr (by simp))
  obtain ⟨A', c', w', hr, h2, h3, h5⟩ := run_app (P := Try.prog) w 0 T o.type E z size bytes hT hinfo hz1 hsz A n c xs hown2 (some ⟨g, 0, none⟩) 1 c2 us (by rw [hul, Nat.one_mul])
    (fun _ => ⟨_, rfl, fun j u hj => by rw [Addr.add_mid, Nat.zero_add]; exact hsrc j u hj⟩) hu1 (by omega) (by unfold maxLen; omega) (Nat.zero_le _)
  have e1 := hs L a w cc
  refine ⟨.slice A' (n + 1) c', w', ?_, ?_, ?_, ?_⟩
  · unfold execOp
    simp only [hop, resolve, invoke, builtin, Sem.run_bind, Sem.run_pure, Result.andThen_ok, List.map_toArray, List.map_cons, List.map_nil, Act.eval, e1, hxv, hr]
  · rw [hD]
    refine ⟨A', c', rfl, h2, ?_⟩
    rcases h5 with h5 | h5
    · exact .inl h5
    · exact .inr fun g hg => by rw [h5] at hg; injection hg with hg; have := hgn.size; omega
  · exact ⟨h3, fun e => by rw [cc.fresh] at e; cases e⟩
  · exact ⟨(grown_none hgn).trans h3, fun e => by simp [upd] at e⟩
end
end Go.Proofs.Ytgeffkdobnipgaa
/- procs: valid, New. -/
namespace Nac.Procs
structure RIn where
  kind : Int
  count : Int
  most : Int
/-- may the resource be? -/
structure RIn.Ok (r : RIn) : Prop where
  kind : r.kind = 0 ∨ r.kind = 1 ∨ r.kind = 2
  lo : 1 ≤ r.most
  hi : r.most ≤ 16
  one : r.kind = 1 → r.most = 1
  c0 : 0 ≤ r.count
  c1 : r.count ≤ r.most
  none : r.kind = 2 → r.count = 0
structure OkNew (prs : List Int) (rs : List RIn) : Prop where
  n1 : 1 ≤ prs.length
  n8 : prs.length ≤ 8
  m8 : rs.length ≤ 8
  pr : ∀ p ∈ prs, 0 ≤ p ∧ p ≤ 63
  rs : ∀ r ∈ rs, r.Ok
def prc0 (p : Int) : Prc := ⟨p, 0, ok, 0, 0, 0⟩
def rsc0 (r : RIn) : Rsc := ⟨r.kind, r.count, r.most, [], []⟩
def P0 (prs : List Int) (rs : List RIn) : PSet := ⟨prs.map prc0, rs.map rsc0, []⟩
theorem P0_proc {prs : List Int} {rs : List RIn} {p : Nat} (hp : p < prs.length) : (P0 prs rs).proc p = prc0 prs[p] := by simp [P0, PSet.proc, List.getD, hp]
theorem P0_rsc {prs : List Int} {rs : List RIn} {r : Nat} (hr : r < rs.length) : (P0 prs rs).rsc r = rsc0 rs[r] := by simp [P0, PSet.rsc, List.getD, hr]
theorem P0_inv {prs : List Int} {rs : List RIn} (h : OkNew prs rs) : Inv (P0 prs rs) := by
  have hn : (P0 prs rs).ps.length = prs.length := by simp [P0]
  have hm : (P0 prs rs).rs.length = rs.length := by simp [P0]
  have hp : ∀ p, p < (P0 prs rs).ps.length → ∃ z ∈ prs, (P0 prs rs).proc p = prc0 z := fun p hp => by
    rw [hn] at hp
    exact ⟨_, List.getElem_mem hp, P0_proc hp⟩
  have hr : ∀ r, r < (P0 prs rs).rs.length → ∃ z ∈ rs, (P0 prs rs).rsc r = rsc0 z := fun r hr => by
    rw [hm] at hr
    exact ⟨_, List.getElem_mem hr, P0_rsc hr⟩
  refine ⟨by rw [hn]; exact h.n1, by rw [hn]; exact h.n8, by rw [hm]; exact h.m8, List.nodup_nil, fun p => ?_, fun r hr' => ?_, fun r hr' p => ?_, fun p hp' => ?_, fun p hp' => ?_, fun p hp' h2 => ?_, fun p hp' h2 _ => ?_, fun r hr' => ?_, fun r hr' => ?_, fun r hr' => ?_, fun r hr' hk => ?_, fun r hr' _ hne => ?_⟩
  · constructor
    · intro h; exact absurd h (by simp [P0])
    · rintro ⟨h1, h2, _⟩
      obtain ⟨z, _, e⟩ := hp p h1
      rw [e] at h2; exact absurd (show (0 : Int) = 1 from h2) (by decide)
  · obtain ⟨z, _, e⟩ := hr r hr'; rw [e]; exact List.nodup_nil
  · obtain ⟨z, _, e⟩ := hr r hr'
    rw [e]
    constructor
    · intro h; exact absurd h (by simp [rsc0])
    · rintro ⟨h1, h2, _⟩
      obtain ⟨z, _, e⟩ := hp p h1
      rw [e] at h2; exact absurd (show (0 : Int) = 2 from h2) (by decide)
  · obtain ⟨z, _, e⟩ := hp p hp'; rw [e]; exact .inl rfl
  · obtain ⟨z, hz, e⟩ := hp p hp'; rw [e]; exact h.pr z hz
  · obtain ⟨z, _, e⟩ := hp p hp'; rw [e] at h2; exact absurd (show (0 : Int) = 2 from h2) (by decide)
  · obtain ⟨z, _, e⟩ := hp p hp'; rw [e] at h2; exact absurd (show (0 : Int) = 2 from h2) (by decide)
  · obtain ⟨z, hz, e⟩ := hr r hr'; rw [e]; exact (h.rs z hz).kind
  · obtain ⟨z, hz, e⟩ := hr r hr'; rw [e]; exact ⟨(h.rs z hz).lo, (h.rs z hz).hi, (h.rs z hz).one⟩
  · obtain ⟨z, hz, e⟩ := hr r hr'; rw [e]; exact ⟨(h.rs z hz).c0, (h.rs z hz).c1⟩
  · obtain ⟨z, hz, e⟩ := hr r hr'; rw [e] at hk ⊢; exact (h.rs z hz).none hk
  · obtain ⟨z, _, e⟩ := hr r hr'; rw [e] at hne; exact absurd rfl hne
end Nac.Procs
namespace Go.Proofs.Ytgeffkdobnipgaa
open Go.RowKit Nac Nac.Procs
def RetBb (w : World) (b : Bool) (e : Ending) (w' : World) : Prop := e = .returned (.bool b) ∧ Below w.heap.size w w'
set_option maxHeartbeats 1000000 in
theorem valid_ok (w : World) (r : RIn) (h : r.Ok) : Calls Try.prog 23 #[.agg #[.int .i64 r.kind, .int .i64 r.count, .int .i64 r.most]] w (RetBb w true) := by
  obtain ⟨k, cn, mo⟩ := r
  obtain ⟨hk, h1, h2, h3, h4, h5, h6⟩ := h
  simp only at hk h1 h2 h3 h4 h5 h6
  rcases hk with rfl | rfl | rfl
  · clear h3 h6
    go_enter Try.func23, Try.ntmps23
    go_wp2
    go_ret
    exact ⟨rfl, (Below.refl _ _).alloc (Nat.le_refl _) _⟩
  · obtain rfl := h3 rfl
    clear h3 h6 h1 h2
    go_enter Try.func23, Try.ntmps23
    go_wp2
    go_ret
    exact ⟨rfl, (Below.refl _ _).alloc (Nat.le_refl _) _⟩
  · obtain rfl := h6 rfl
    clear h3 h6 h4 h5
    go_enter Try.func23, Try.ntmps23
    go_wp2
    go_ret
    exact ⟨rfl, (Below.refl _ _).alloc (Nat.le_refl _) _⟩
/-- the slice at A reads as resources, below block B -/
def RR (w : World) (B : Nat) (A : Option Addr) (l : List RIn) : Prop :=
  l ≠ [] → ∃ b o, A = some ⟨b, o, none⟩ ∧ b < B ∧ ∀ j (h : j < l.length), w.cell? ⟨b, o + j * 3, none⟩ = some (.int .i64 l[j].kind) ∧ w.cell? ⟨b, o + j * 3 + 1, none⟩ = some (.int .i64 l[j].count) ∧ w.cell? ⟨b, o + j * 3 + 2, none⟩ = some (.int .i64 l[j].most)
theorem RR.below {w w' : World} {B : Nat} {A : Option Addr} {l : List RIn} (h : RR w B A l) (hb : Below B w w') : RR w' B A l := fun hn => by
  obtain ⟨b, o, hA, hlt, hc⟩ := h hn
  exact ⟨b, o, hA, hlt, fun j hj => ⟨(hb.cell hlt).trans (hc j hj).1, (hb.cell hlt).trans (hc j hj).2.1, (hb.cell hlt).trans (hc j hj).2.2⟩⟩
theorem RR.mono {w : World} {B B' : Nat} {A : Option Addr} {l : List RIn} (h : RR w B A l) (hB : B ≤ B') : RR w B' A l := fun hn => by
  obtain ⟨b, o, hA, hb, hc⟩ := h hn
  exact ⟨b, o, hA, by omega, hc⟩
theorem RR.get {w : World} {B : Nat} {A : Option Addr} {l : List RIn} (h : RR w B A l) {k : Nat} (hk : k < l.length) :
    ∃ b o, A = some ⟨b, o, none⟩ ∧ b < B ∧ w.cell? ⟨b, o + k * 3, none⟩ = some (.int .i64 l[k].kind) ∧ w.cell? ⟨b, o + k * 3 + 1, none⟩ = some (.int .i64 l[k].count) ∧ w.cell? ⟨b, o + k * 3 + 2, none⟩ = some (.int .i64 l[k].most) := by
  obtain ⟨b, o, hA, hb, hc⟩ := h (by intro e; subst e; simp at hk)
  exact ⟨b, o, hA, hb, hc k hk⟩
theorem Try.infoPrc : (Try.prog.info? 54).map (fun i => (i.zero, i.size, i.bytes)) = some (some (.agg #[.int .i64 0, .int .i64 0, .int .i64 0, .int .i64 0, .bool false, .int .i64 0, .int .i64 0, .int .i64 0]), 8, 64) := by kernel_rfl
theorem Try.infoRsc : (Try.prog.info? 58).map (fun i => (i.zero, i.size, i.bytes)) = some (some (.agg #[.int .i64 0, .int .i64 0, .int .i64 0, .slice none 0 0, .slice none 0 0]), 5, 72) := by kernel_rfl
theorem build_prc (w : World) (x : Int) : (Instr.build 54 #[(0, .int .i64 x), (1, .int .i64 0)]).run Try.prog w = .ok (.agg #[.int .i64 x, .int .i64 0, .int .i64 0, .int .i64 0, .bool false, .int .i64 0, .int .i64 0, .int .i64 0]) w := run_build w _ _ _ (by kernel_rfl)
theorem build_rsc (w : World) (x y z : Int) : (Instr.build 58 #[(0, .agg #[.int .i64 x, .int .i64 y, .int .i64 z])]).run Try.prog w = .ok (.agg #[.int .i64 x, .int .i64 y, .int .i64 z, .slice none 0 0, .slice none 0 0]) w := run_build w _ _ _ (by kernel_rfl)
theorem buildS_prc (w : World) (x : Int) : (Instr.buildSlice 49 1 #[(0, .agg #[.int .i64 x, .int .i64 0, .int .i64 0, .int .i64 0, .bool false, .int .i64 0, .int .i64 0, .int .i64 0])]).run Try.prog w = .ok (.slice (some ⟨w.heap.size, 0, none⟩) 1 1) (w.alloc (.cells #[.int .i64 x, .int .i64 0, .int .i64 0, .int .i64 0, .bool false, .int .i64 0, .int .i64 0, .int .i64 0] 54)) := by
  obtain ⟨ti, hi, hz, hs1, hb1⟩ := info_parts Try.infoPrc
  refine run_buildSlice w _ _ 1 _ _ ti _ Try.underlying49 hi hz (by rw [hs1]; decide) (by rw [hs1]; decide) ?_
  rw [hs1]; kernel_rfl
theorem buildS_rsc (w : World) (x y z : Int) : (Instr.buildSlice 50 1 #[(0, .agg ([.int .i64 x, .int .i64 y, .int .i64 z, .slice none 0 0, .slice none 0 0] : List Value).toArray)]).run Try.prog w = .ok (.slice (some ⟨w.heap.size, 0, none⟩) 1 1) (w.alloc (.cells ([.int .i64 x, .int .i64 y, .int .i64 z, .slice none 0 0, .slice none 0 0] : List Value).toArray 58)) := by
  obtain ⟨ti, hi, hz, hs1, hb1⟩ := info_parts Try.infoRsc
  refine run_buildSlice w _ _ 1 _ _ ti _ Try.underlying50 hi hz (by rw [hs1]; decide) (by rw [hs1]; decide) ?_
  rw [hs1]; kernel_rfl
theorem sSet : SInfo 52 3 := ⟨by kernel_rfl, _, Try.underlying52, rfl⟩
theorem sRin : SInfo 30 3 := ⟨by kernel_rfl, _, Try.underlying30, rfl⟩
theorem zRin : ((Try.prog.info? 30).bind (·.zero)) = some (.agg (([.int .i64 0, .int .i64 0, .int .i64 0] : List Value).toArray)) := by kernel_rfl
theorem s1Prcs : (Try.prog.info? 49).map (·.size) = some 1 := by kernel_rfl
theorem s1Rscs : (Try.prog.info? 50).map (·.size) = some 1 := by kernel_rfl
theorem rsc_one {x y z : Int} : ∀ u ∈ ([.int .i64 x, .int .i64 y, .int .i64 z, .slice none 0 0, .slice none 0 0] : List Value), u.oneCell' = true := by intro u hu; simp at hu; rcases hu with rfl | rfl | rfl | rfl <;> rfl
theorem rin_one {x y z : Int} : ∀ u ∈ ([.int .i64 x, .int .i64 y, .int .i64 z] : List Value), u.oneCell' = true := by intro u hu; simp at hu; rcases hu with rfl | rfl | rfl <;> rfl
theorem prc_one (x : Prc) : ∀ u ∈ pcells x, u.oneCell' = true := by intro u hu; simp [pcells] at hu; rcases hu with rfl | rfl | rfl | rfl | rfl | rfl | rfl | rfl <;> rfl
def rcell0 (x : Rsc) : List Value := rcells x none 0 none 0
/-- a set that is being made -/
structure NewM (w : World) (S : Nat) (A0 A1 : Option Addr) (c0 c1 : Nat) (ps : List Prc) (rs : List Rsc) (wr : World) : Prop where
  below : Below w.heap.size w wr
  blk : Blk wr S [.slice A0 ps.length c0, .slice A1 rs.length c1, .slice none 0 0]
  po : Row wr 54 8 A0 c0 ps.length (ps.map pcells).flatten
  ro : Row wr 58 5 A1 c1 rs.length (rs.map rcell0).flatten
  sS : w.heap.size ≤ S
  a0 : ∀ g, A0.map (·.block) = some g → w.heap.size ≤ g ∧ g ≠ S
  a1 : ∀ g, A1.map (·.block) = some g → w.heap.size ≤ g ∧ g ≠ S ∧ A0.map (·.block) ≠ some g
def NewRes (w : World) (P : PSet) (e : Ending) (w' : World) : Prop := ∃ S A c, e = .returned (.tuple #[.pointer (some ⟨S, 0, none⟩), .int .i64 0]) ∧ SetM w' S P A c ∧ (∀ k, Foot S A k → w.heap.size ≤ k) ∧ Below w.heap.size w w'
theorem NewM.done {w wr : World} {S : Nat} {A0 A1 : Option Addr} {c0 c1 : Nat} {ps : List Prc} {rs : List Rsc} (h : NewM w S A0 A1 c0 c1 ps rs wr) (hq : ∀ x ∈ rs, x.q = [] ∧ x.items = []) : NewRes w ⟨ps, rs, []⟩ (.returned (.tuple #[.pointer (some ⟨S, 0, none⟩), .int .i64 0])) wr := by
  have hg : ∀ i, (rs.getD i default).q = [] ∧ (rs.getD i default).items = [] := fun i => by
    by_cases hi : i < rs.length
    · have : rs.getD i default = rs[i] := by simp [List.getD, hi]
      rw [this]; exact hq _ (List.getElem_mem hi)
    · have : rs.getD i default = default := by simp [List.getD, List.getElem?_eq_none (Nat.le_of_not_lt hi)]
      rw [this]; exact ⟨rfl, rfl⟩
  have hf : ∀ k, Foot S (fun j => if j = 0 then A0 else if j = 1 then A1 else none) k → w.heap.size ≤ k := by
    rintro k (rfl | ⟨j, hj⟩)
    · exact h.sS
    · simp only at hj
      split at hj
      · exact (h.a0 k hj).1
      · split at hj
        · exact (h.a1 k hj).1
        · simp at hj
  refine ⟨S, fun j => if j = 0 then A0 else if j = 1 then A1 else none, fun j => if j = 0 then c0 else if j = 1 then c1 else 0, rfl, ⟨h.blk, h.po, ?_, Row.nil _ _ _, fun i _ => ?_, fun i _ => ?_, ?_, ?_, ?_⟩, hf, h.below⟩
  · have e : rrows rs (fun j => if j = 0 then A0 else if j = 1 then A1 else none) (fun j => if j = 0 then c0 else if j = 1 then c1 else 0) = rs.map rcell0 := by
      refine List.ext_getElem (by simp [rrows]) fun i h1 h2 => ?_
      have hi : i < rs.length := by simpa using h2
      rw [rr_get rs _ _ h1]
      have e1 : rs.getD i default = rs[i] := by simp [List.getD, hi]
      rw [e1, List.getElem_map]
      unfold rcell0
      simp only [show ¬ (3 + 2 * i = 0) by omega, show ¬ (3 + 2 * i = 1) by omega, show ¬ (4 + 2 * i = 0) by omega, show ¬ (4 + 2 * i = 1) by omega, if_false]
    show Row wr _ 5 A1 c1 rs.length (rrows rs _ _).flatten
    rw [e]; exact h.ro
  · have := (hg i).1
    show Row wr _ 1 (if 3 + 2 * i = 0 then A0 else if 3 + 2 * i = 1 then A1 else none) (if 3 + 2 * i = 0 then c0 else if 3 + 2 * i = 1 then c1 else 0) ((rs.getD i default).q).length (nums ((rs.getD i default).q))
    rw [this]
    simp only [show ¬ (3 + 2 * i = 0) by omega, show ¬ (3 + 2 * i = 1) by omega, if_false]
    exact Row.nil _ _ _
  · have := (hg i).2
    show Row wr _ 1 (if 4 + 2 * i = 0 then A0 else if 4 + 2 * i = 1 then A1 else none) (if 4 + 2 * i = 0 then c0 else if 4 + 2 * i = 1 then c1 else 0) ((rs.getD i default).items).length (((rs.getD i default).items).map (Value.int .i64))
    rw [this]
    simp only [show ¬ (4 + 2 * i = 0) by omega, show ¬ (4 + 2 * i = 1) by omega, if_false]
    exact Row.nil _ _ _
  · intro j k g hjk hj hk
    split at hj
    · subst_vars
      rw [if_neg (fun e => hjk e.symm)] at hk
      split at hk
      · exact (h.a1 g hk).2.2 hj
      · simp at hk
    · split at hj
      · subst_vars
        split at hk
        · exact (h.a1 g hj).2.2 hk
        · rw [if_neg (fun e => hjk e.symm)] at hk; simp at hk
      · simp at hj
  · intro j hj
    split at hj
    · exact (h.a0 S hj).2 rfl
    · split at hj
      · exact (h.a1 S hj).2.1 rfl
      · simp at hj
  · intro j hj
    have : ¬ j = 0 ∧ ¬ j = 1 := by omega
    simp only [this.1, this.2, if_false]
set_option maxRecDepth 100000 in
set_option maxHeartbeats 1000000 in
theorem new_ok (w : World) (Ap Ar : Option Addr) (cp cr : Nat) (prs : List Int) (rs : List RIn) (np nr : Nat) (hnp : np = prs.length) (hnr : nr = rs.length) (hp : RI w w.heap.size Ap prs) (hr : RR w w.heap.size Ar rs) (hok : OkNew prs rs) :
    Calls Try.prog 10 #[.slice Ap np cp, .slice Ar nr cr] w (NewRes w (P0 prs rs)) := by
  have h1 : 1 ≤ np := by rw [hnp]; exact hok.n1
  have h2 : np ≤ 8 := by rw [hnp]; exact hok.n8
  have h3 : nr ≤ 8 := by rw [hnr]; exact hok.m8
  have HNP := Lib.hid hnp
  have HNR := Lib.hid hnr
  have HP := Lib.hid hp
  have HR := Lib.hid hr
  have HOK := Lib.hid hok
  clear hnp hnr hp hr hok
  go_enter Try.func10, Try.ntmps10
  go_wp2_with ((with_reducible show wpList _ _ _ (Oper.mk _ (Op.box 52 _) _ _ _ _ :: _) _ _); refine wpList_boxS (T := 52) rfl _ rfl [.slice none 0 0, .slice none 0 0, .slice none 0 0] rfl ?_)
  intro w1 hb1 hg1 hs1
  obtain ⟨S, hS⟩ : ∃ S, S = w.heap.size := ⟨_, rfl⟩
  rw [← hS] at hb1 ⊢
  have HN0 : Hid (NewM w S none none 0 0 (((prs.take 0).map prc0)) [] w1) := Lib.hid ⟨grown_below hg1 (Nat.le_refl _) (fun k e => by cases e), hb1, Row.nil _ _ _, Row.nil _ _ _, by omega, fun g e => (by cases e), fun g e => (by cases e)⟩
  have HSE : Hid (S = w.heap.size) := Lib.hid hS
  clear hb1 hg1 hs1 hS
  go_wp2
  go_loopw [28] (fun i wr => ∃ (k : Nat) (A0 : Option Addr) (c0 : Nat), k ≤ np ∧ i = .int .i64 k ∧ NewM w S A0 none c0 0 ((prs.take k).map prc0) [] wr) (fun i _ => np - (intOf i).toNat)
  case atStart => exact ⟨0, none, 0, Nat.zero_le _, rfl, HN0.out⟩
  case round =>
    obtain ⟨k, A0, c0, hk, rfl, hnm⟩ := hrel
    have HNM := Lib.hid hnm
    by_cases hlt : k < np
    · have hkl : k < prs.length := by rw [← HNP.out]; exact hlt
      obtain ⟨b, o, hA, hb, hc⟩ := HP.out.get hkl
      obtain ⟨x, hx⟩ : ∃ x, x = prs[k] := ⟨_, rfl⟩
      rw [← hx] at hc
      have hxr := HOK.out.pr x (by rw [hx]; exact List.getElem_mem _)
      obtain ⟨hx1, hx2⟩ := hxr
      have hx1' : ¬ x < 0 := by omega
      have hx2' : ¬ 63 < x := by omega
      have hc' : wr.cell? ⟨b, o + k, none⟩ = some (.int .i64 x) := (hnm.below.cell hb).trans hc
      obtain ⟨k', hk'⟩ : ∃ k', k' = ((prs.take k).map prc0).length := ⟨_, rfl⟩
      have hkk : k' = k := by rw [hk']; simp; omega
      have cS : wr.cell? ⟨S, 0, none⟩ = some (.slice A0 k c0) := by rw [← hkk, hk']; exact hnm.blk.cell rfl
      have HTK : Hid ((prs.take (k + 1)).map prc0 = (prs.take k).map prc0 ++ [prc0 x]) := Lib.hid (by rw [List.take_succ_eq_append_getElem hkl, List.map_append, hx]; rfl)
      obtain ⟨XS, hXS⟩ : ∃ XS, XS = (((prs.take k).map prc0).map pcells).flatten := ⟨_, rfl⟩
      have HXS := Lib.hid hXS
      have HPO : Hid (Row wr 54 8 A0 c0 k XS) := Lib.hid (by rw [hXS]; have h7 := hnm.po; rw [show ((prs.take k).map prc0).length = k from hk'.symm.trans hkk] at h7; exact h7)
      have HLK : Hid (((prs.take k).map prc0).length = k) := Lib.hid (hk'.symm.trans hkk)
      subst hA
      clear hb hc hx hkl hk' hkk hnm HN0 hXS
      have hbp := build_prc
      have hbs := buildS_prc
      have HR0 : Hid (Row (wr.alloc (.cells #[.int .i64 x, .int .i64 0, .int .i64 0, .int .i64 0, .bool false, .int .i64 0, .int .i64 0, .int .i64 0] 54)) 54 8 A0 c0 k XS) := Lib.hid (HPO.out.below ((Below.refl _ _).alloc (Nat.le_refl _) _))
      have HSRC : Hid (Src (wr.alloc (.cells #[.int .i64 x, .int .i64 0, .int .i64 0, .int .i64 0, .bool false, .int .i64 0, .int .i64 0, .int .i64 0] 54)) (some ⟨wr.heap.size, 0, none⟩) (pcells (prc0 x))) := Lib.hid fun _ => ⟨_, rfl, fun j u hu => by
        rw [Addr.add_mid, Nat.zero_add]
        exact (Blk.new wr (pcells (prc0 x)) 54).cell hu⟩
      go_wp2_with (at_builtin; refine wpList_app _ rfl _ _ 49 rfl 0 54 _ 8 64 Try.underlying49 Try.infoPrc rfl (by decide) A0 k c0 _ rfl HR0.out (some ⟨wr.heap.size, 0, none⟩) 1 1 (pcells (prc0 x)) rfl rfl HSRC.out (prc_one _) (by omega) (by unfold maxLen; omega) (Nat.zero_le _) ?_)
      intro A2 c2 w5 hr5 hg5 hb5
      have hba : Below wr.heap.size wr (wr.alloc (.cells #[.int .i64 x, .int .i64 0, .int .i64 0, .int .i64 0, .bool false, .int .i64 0, .int .i64 0, .int .i64 0] 54)) := (Below.refl _ _).alloc (Nat.le_refl _) _
      have hgw : wr.grownBy w5 (A0.map (·.block)) := ⟨hg5.os, hg5.tape, hg5.output, Nat.le_trans hba.size hg5.size, fun k hk hne => (hg5.block k (Nat.lt_of_lt_of_le hk hba.size) hne).trans (hba.block k hk)⟩
      have HBW : Hid (Below w.heap.size w w5) := Lib.hid (HNM.out.below.trans (grown_below hgw HNM.out.below.size fun k e => (HNM.out.a0 k e).1))
      have HBS : Hid (Blk w5 S [.slice A0 k c0, .slice none 0 0, .slice none 0 0]) := Lib.hid (by
        have := HNM.out.blk
        rw [HLK.out] at this
        exact this.grown hgw fun e => (HNM.out.a0 S e).2 rfl)
      have HA2 : Hid (∀ g, A2.map (·.block) = some g → w.heap.size ≤ g ∧ g ≠ S) := Lib.hid fun g hg => by
        rcases hb5 with e | e
        · exact HNM.out.a0 g (e.symm.trans hg)
        · obtain ⟨a, rfl, ha⟩ := e
          rw [Option.map_some] at hg
          injection hg with hg
          have h7 := HNM.out.below.size
          have h8 := HNM.out.blk.lt
          exact ⟨by omega, by omega⟩
      have HR5 := Lib.hid hr5
      clear hr5 hg5 hb5 hba hgw HR0 HSRC HPO cS hc' hbp hbs
      go_wp2_with ((with_reducible show wpList _ _ _ (Oper.mk _ (Op.store _ _ _) _ _ _ _ :: _) _ _); refine wpList_storeB rfl 49 _ _ rfl S 0 [.slice A0 k c0, .slice none 0 0, .slice none 0 0] (.slice A2 (k + 1) c2) rfl rfl HBS.out (Nat.succ_pos 2) s1Prcs rfl ?_)
      intro w6 hb6 hg6
      have HN6 : Hid (NewM w S A2 none c2 0 ((prs.take (k + 1)).map prc0) [] w6) := Lib.hid (by
        rw [HTK.out]
        refine ⟨HBW.out.trans (grown_below hg6 HBW.out.size fun k e => by injection e with e; rw [← e, HSE.out]; exact Nat.le_refl _), ?_, ?_, Row.nil _ _ _, by rw [HSE.out]; exact Nat.le_refl _, HA2.out, fun g e => (by cases e)⟩
        · rw [List.length_append, HLK.out]; exact hb6
        · rw [List.length_append, HLK.out, List.map_append, List.flatten_append]
          have h7 : Row w5 54 8 A2 c2 (k + 1) (XS ++ pcells (prc0 x)) := HR5.out
          have h8 := h7.kept hg6 (.inr fun e => (HA2.out S e).2 rfl)
          rw [HXS.out] at h8
          simpa using h8)
      clear hb6 hg6 HBS HR5 HBW HA2 HTK
      go_wp2
      go_roundw
      case rel => exact ⟨k + 1, A2, c2, by omega, by go_num, HN6.out⟩
      case measure => simp [intOf]; omega
    · have hkn : k = np := by omega
      have HN1 : Hid (NewM w S A0 none c0 0 (prs.map prc0) ((rs.take 0).map rsc0) wr) := Lib.hid (by rw [hkn, HNP.out, List.take_length] at hnm; exact hnm)
      subst hkn
      clear hnm HNM HN0
      go_wp2
      go_loopw [52] (fun i wr => ∃ (j : Nat) (A1 : Option Addr) (c1 : Nat), j ≤ nr ∧ i = .int .i64 j ∧ NewM w S A0 A1 c0 c1 (prs.map prc0) ((rs.take j).map rsc0) wr) (fun i _ => nr - (intOf i).toNat)
      case atStart => exact ⟨0, none, 0, Nat.zero_le _, rfl, HN1.out⟩
      case round =>
        rename_i wr0 wr
        obtain ⟨j, A1, c1, hj, rfl, hnm⟩ := hrel
        have HNM := Lib.hid hnm
        by_cases hlt : j < nr
        · have hjl : j < rs.length := by rw [← HNR.out]; exact hlt
          obtain ⟨b, o, hA, hb, hc0, hc1, hc2⟩ := HR.out.get hjl
          obtain ⟨rk, rc, rm, hr⟩ : ∃ rk rc rm, rs[j] = ⟨rk, rc, rm⟩ := ⟨_, _, _, rfl⟩
          rw [hr] at hc0 hc1 hc2
          have HRO : Hid (RIn.Ok ⟨rk, rc, rm⟩) := Lib.hid (by rw [← hr]; exact HOK.out.rs _ (List.getElem_mem _))
          have HRG : Hid (wr.rangeAt b (o + j * 3) [.int .i64 rk, .int .i64 rc, .int .i64 rm]) := Lib.hid fun f v hv => by
            have hf : f < 3 := (List.getElem?_eq_some_iff.1 hv).1
            rcases (by omega : f = 0 ∨ f = 1 ∨ f = 2) with rfl | rfl | rfl
            · simp at hv; subst hv; exact (hnm.below.cell hb).trans hc0
            · simp at hv; subst hv; exact (hnm.below.cell hb).trans hc1
            · simp at hv; subst hv; exact (hnm.below.cell hb).trans hc2
          obtain ⟨XS, hXS⟩ : ∃ XS, XS = (((rs.take j).map rsc0).map rcell0).flatten := ⟨_, rfl⟩
          have HLJ : Hid (((rs.take j).map rsc0).length = j) := Lib.hid (by simp; omega)
          have HTK : Hid ((rs.take (j + 1)).map rsc0 = (rs.take j).map rsc0 ++ [rsc0 ⟨rk, rc, rm⟩]) := Lib.hid (by rw [List.take_succ_eq_append_getElem hjl, List.map_append, hr]; rfl)
          have HRO1 : Hid (Row wr 58 5 A1 c1 j XS) := Lib.hid (by have h7 := hnm.ro; rw [HLJ.out, ← hXS] at h7; exact h7)
          have HXS := Lib.hid hXS
          subst hA
          clear hb hc0 hc1 hc2 hjl hr hnm hXS HN1
          go_wp2_with (first | ((with_reducible show wpList _ _ _ (Oper.mk _ (Op.load 30 _) _ _ _ _ :: _) _ _); refine wpList_load_mid rfl 30 _ rfl b (o + j * 3) rfl [.int .i64 rk, .int .i64 rc, .int .i64 rm] _ HRG.out Try.underlying30 rfl sRin.info ?_) | ((with_reducible show wpList _ _ _ (Oper.mk _ (Op.alloc 30) _ _ _ _ :: _) _ _); refine wpList_allocS _ zRin rfl rfl ?_))
          intro w2 hb2 hg2 hs2
          obtain ⟨bx, hbx⟩ : ∃ b, b = wr.heap.size := ⟨_, rfl⟩
          rw [← hbx] at hb2 ⊢
          have HB2 := Lib.hid hb2
          have HG2 := Lib.hid hg2
          have HBX := Lib.hid hbx
          clear hb2 hg2 hs2 hbx HRG
          go_wp2_with ((with_reducible show wpList _ _ _ (Oper.mk _ (Op.store 30 _ _) _ _ _ _ :: _) _ _); refine wpList_storeS sRin rfl _ _ rfl bx [.int .i64 0, .int .i64 0, .int .i64 0] [.int .i64 rk, .int .i64 rc, .int .i64 rm] rfl rfl HB2.out rfl rfl rin_one ?_)
          intro w3 hb3 hg3
          have HB3 := Lib.hid hb3
          have HW3 : Hid (Below wr.heap.size wr w3) := Lib.hid ((grown_below HG2.out (Nat.le_refl _) fun k e => by cases e).trans (grown_below hg3 HG2.out.size fun k e => by injection e with e; rw [← e, HBX.out]; exact Nat.le_refl _))
          clear hb3 hg3 HB2 HG2
          go_wp2_with (first | ((with_reducible show wpList _ _ _ (Oper.mk _ (Op.load 30 _) _ _ _ _ :: _) _ _); refine wpList_loadS sRin rfl _ rfl bx [.int .i64 rk, .int .i64 rc, .int .i64 rm] rfl HB3.out rfl ?_) | fail)
          refine (valid_ok w3 ⟨rk, rc, rm⟩ HRO.out).mono ?_
          rintro e w6 ⟨rfl, hb6⟩
          have HW6 : Hid (Below wr.heap.size wr w6) := Lib.hid (HW3.out.trans (hb6.mono HW3.out.size))
          have HB6 : Hid (Blk w6 bx [.int .i64 rk, .int .i64 rc, .int .i64 rm]) := Lib.hid (HB3.out.below hb6 HB3.out.lt)
          clear hb6 HW3 HB3
          have HROW : Hid (∀ k, A1.map (·.block) = some k → k < w6.heap.size) := Lib.hid fun k hk => Nat.lt_of_lt_of_le (HRO1.out.lt k hk) HW6.out.size
          have QR : Hid (Row w6 58 5 A1 c1 j XS) := Lib.hid (HRO1.out.below HW6.out)
          have HBS : Hid (Blk w6 S [.slice A0 (prs.map prc0).length c0, .slice A1 j c1, .slice none 0 0]) := Lib.hid (by have h7 := HNM.out.blk; rw [HLJ.out] at h7; exact h7.below HW6.out HNM.out.blk.lt)
          have C1 : Hid (KnowC w6 (A1.map (·.block)) S 1 (.slice A1 j c1)) := knowC (HBS.out.cell rfl) (fun e => (HNM.out.a1 S e.symm).2.1 rfl)
          have BX : Hid (∀ w', w6.grownBy w' (A1.map (·.block)) → w'.cell? ⟨bx, 0, none⟩ = some (.int .i64 rk) ∧ w'.cell? ⟨bx, 1, none⟩ = some (.int .i64 rc) ∧ w'.cell? ⟨bx, 2, none⟩ = some (.int .i64 rm)) := Lib.hid fun w' hg => by
            have hne : A1.map (·.block) ≠ some bx := fun e => by have := HRO1.out.lt bx e; have := HBX.out; omega
            have := HB6.out.grown hg hne
            exact ⟨this.cell rfl, this.cell rfl, this.cell rfl⟩
          have BU : Hid (∀ w, (Instr.build 58 #[(0, .agg #[.int .i64 rk, .int .i64 rc, .int .i64 rm])]).run Try.prog w = .ok (.agg #[.int .i64 rk, .int .i64 rc, .int .i64 rm, .slice none 0 0, .slice none 0 0]) w) := Lib.hid fun w => build_rsc w rk rc rm
          clear HRO
          go_wp2_with fail
          refine region_relL 9 (AppR (A1.map (·.block)) 8) (fun ix9 => ([.is (.pointer (some ⟨S, 0, none⟩)), .is (.pointer (some ⟨S, 0, none⟩)), .is (.pointer (some ⟨S, 0, none⟩)), .is (.pointer (some ⟨S, 1, none⟩)), .is (.slice A1 j c1), .is (.agg #[.int .i64 rk, .int .i64 rc, .int .i64 rm]), .is (.agg ([.int .i64 rk, .int .i64 rc, .int .i64 rm, .slice none 0 0, .slice none 0 0] : List Value).toArray), .pr (BuiltN w6 [.int .i64 rk, .int .i64 rc, .int .i64 rm, .slice none 0 0, .slice none 0 0]), .pr (AppedN w6 58 5 A1 j XS [.int .i64 rk, .int .i64 rc, .int .i64 rm, .slice none 0 0, .slice none 0 0])] : List LD).getD ix9 (.is undef)) [some 59, some 60, some 61, some 62, some 63, some 64, some 65, some 66, some 67] (AppJ w6 (A1.map (·.block)) 8) (fun ii hii => ?_) (AppR.refl _ 8) (by kernel_rfl) (by kernel_rfl) (by kernel_rfl) (by kernel_rfl) rfl (AppJ.start w6 _ 8) (fun ii hii => ?_) ?_
          · match ii, hii with
            | 0, _ => exact LD.keeps_is _ _ _
            | 1, _ => exact LD.keeps_is _ _ _
            | 2, _ => exact LD.keeps_is _ _ _
            | 3, _ => exact LD.keeps_is _ _ _
            | 4, _ => exact LD.keeps_is _ _ _
            | 5, _ => exact LD.keeps_is _ _ _
            | 6, _ => exact LD.keeps_is _ _ _
            | 7, _ => exact keep_builtN 7 _ HROW.out
            | 8, _ => exact keep_appedN _ _ _ _ _ _
            | n + 9, h => exact absurd h (by show ¬ (n + 9 < 9); omega)
          · match ii, hii with
            | 0, _ => exact lstep_first (AppR.refl _ 8) rfl (lwant_none rfl) (AppJ.pure (by decide)) 6 (Or.inl rfl) (by kernel_rfl) (fun _ => rfl)
            | 1, _ => exact lstep_first (AppR.refl _ 8) rfl (lwant_none rfl) (AppJ.pure (by decide)) 6 (Or.inl rfl) (by kernel_rfl) (fun _ => rfl)
            | 2, _ => exact lstep_pure (AppR.refl _ 8) rfl (lwant_none rfl) (AppJ.pure (by decide)) (fun LL aa ww cc => ⟨.pointer (some ⟨S, 0, none⟩), by have e0 : aa.tmps.getD 60 undef = .pointer (some ⟨S, 0, none⟩) := cc.slot 1 60 (by kernel_rfl) rfl; simp only [execOp, Act.eval, e0]; go_simp, rfl⟩)
            | 3, _ => exact lstep_pure (AppR.refl _ 8) rfl (lwant_none rfl) (AppJ.pure (by decide)) (fun LL aa ww cc => ⟨.pointer (some ⟨S, 1, none⟩), by have e0 : aa.tmps.getD 61 undef = .pointer (some ⟨S, 0, none⟩) := cc.slot 2 61 (by kernel_rfl) rfl; simp only [execOp, Act.eval, e0]; go_simp, rfl⟩)
            | 4, _ => exact lstep_pure (AppR.refl _ 8) rfl (lwant_none rfl) (AppJ.pure (by decide)) (fun LL aa ww cc => ⟨.slice A1 j c1, by have e0 : aa.tmps.getD 62 undef = .pointer (some ⟨S, 1, none⟩) := cc.slot 3 62 (by kernel_rfl) rfl; have q := C1.out _ cc.world.1; simp only [execOp, Act.eval, e0]; go_simp, rfl⟩)
            | 5, _ => exact lstep_pure (AppR.refl _ 8) rfl (lwant_none rfl) (AppJ.pure (by decide)) (fun LL aa ww cc => ⟨.agg #[.int .i64 rk, .int .i64 rc, .int .i64 rm], by have e0 : aa.tmps.getD 10 undef = .pointer (some ⟨bx, 0, none⟩) := (cc.orig 10 (by kernel_rfl)).trans rfl; obtain ⟨q0, q1, q2⟩ := BX.out _ cc.world.1; simp only [execOp, Act.eval, e0]; go_simp, rfl⟩)
            | 6, _ => exact lstep_build ((AppR.refl _ 8)) rfl (lwant_none rfl) (AppJ.pure (by decide)) 58 #[(0, .tmp 64)] rfl #[(0, .agg #[.int .i64 rk, .int .i64 rc, .int .i64 rm])] ([.int .i64 rk, .int .i64 rc, .int .i64 rm, .slice none 0 0, .slice none 0 0] : List Value).toArray (fun LL aa ww cc => by have e : aa.tmps.getD 64 undef = .agg #[.int .i64 rk, .int .i64 rc, .int .i64 rm] := cc.slot 5 64 (by kernel_rfl) rfl; simp only [List.map_toArray, List.map_cons, List.map_nil, Act.eval, e]) (fun w => build_rsc w _ _ _) rfl
            | 7, _ => exact lstep_buildN (by decide) rfl (lwant_none rfl) 65 rfl [.int .i64 rk, .int .i64 rc, .int .i64 rm, .slice none 0 0, .slice none 0 0] (fun w => buildS_rsc w _ _ _) (fun LL aa ww cc => cc.slot 6 65 (by kernel_rfl) rfl) rfl
            | 8, _ => exact lstep_appN Try.underlying50 Try.infoRsc rfl (by decide) (by decide) rfl (lwant_none rfl) 63 66 rfl A1 c1 j XS [.int .i64 rk, .int .i64 rc, .int .i64 rm, .slice none 0 0, .slice none 0 0] rfl QR.out rfl rsc_one (by omega) (fun LL aa ww cc => cc.slot 4 63 (by kernel_rfl) rfl) (fun LL aa ww cc => cc.slot 7 66 (by kernel_rfl) rfl) rfl
            | n + 9, h => exact absurd h (by show ¬ (n + 9 < 9); omega)
          · intro L9 VV w5 hall hlen hJ5 hok
            match VV, hlen with
            | [v0, v1, v2, v3, v4, v5, v6, v7, v8], _ =>
              obtain rfl : v0 = .pointer (some ⟨S, 0, none⟩) := hok 0 59 rfl
              obtain rfl : v1 = .pointer (some ⟨S, 0, none⟩) := hok 1 60 rfl
              obtain rfl : v2 = .pointer (some ⟨S, 0, none⟩) := hok 2 61 rfl
              obtain rfl : v3 = .pointer (some ⟨S, 1, none⟩) := hok 3 62 rfl
              obtain rfl : v4 = .slice A1 j c1 := hok 4 63 rfl
              obtain rfl : v5 = .agg #[.int .i64 rk, .int .i64 rc, .int .i64 rm] := hok 5 64 rfl
              obtain rfl : v6 = .agg ([.int .i64 rk, .int .i64 rc, .int .i64 rm, .slice none 0 0, .slice none 0 0] : List Value).toArray := hok 6 65 rfl
              have p7 := hok 7 66 rfl
              have p8 := hok 8 67 rfl
              have p8' : AppedN w6 58 5 A1 j XS [.int .i64 rk, .int .i64 rc, .int .i64 rm, .slice none 0 0, .slice none 0 0] v8 w5 := p8
              obtain ⟨A2, c2, rfl, hrow, hnb⟩ := p8'
              have HG5 : Hid (w6.grownBy w5 (A1.map (·.block))) := Lib.hid hJ5.1
              have HB5 : Hid (Blk w5 S [.slice A0 (prs.map prc0).length c0, .slice A1 j c1, .slice none 0 0]) := Lib.hid (HBS.out.grown hJ5.1 fun e => (HNM.out.a1 S e).2.1 rfl)
              have HR5 := Lib.hid hrow
              have HA2 : Hid (∀ g, A2.map (·.block) = some g → w.heap.size ≤ g ∧ g ≠ S ∧ A0.map (·.block) ≠ some g) := Lib.hid fun g hg => by
                rcases hnb with e | e
                · exact HNM.out.a1 g (e.symm.trans hg)
                · have h7 := e g hg
                  have h8 := HNM.out.blk.lt
                  have h9 := HW6.out.size
                  have h10 := HNM.out.below.size
                  exact ⟨by omega, by omega, fun e2 => by have := HNM.out.po.lt g e2; omega⟩
              have HW5 : Hid (Below w.heap.size w w5) := Lib.hid ((HNM.out.below.trans (HW6.out.mono HNM.out.below.size)).trans (grown_below hJ5.1 (Nat.le_trans HNM.out.below.size HW6.out.size) fun k e => (HNM.out.a1 k e).1))
              have HP5 : Hid (Row w5 54 8 A0 c0 (prs.map prc0).length ((prs.map prc0).map pcells).flatten) := Lib.hid ((HNM.out.po.below HW6.out).kept hJ5.1 (by
                cases hA0 : A0.map (·.block) with
                | none => exact .inl rfl
                | some g => exact .inr fun e => (HNM.out.a1 g e.symm).2.2 hA0))
              clear p7 p8 hrow hnb hJ5 hok hall C1 BX BU QR HROW HBS HB6
              simp only [List.zip_cons_cons, List.zip_nil_right, putsL]
              go_simp
              go_wp2_with ((with_reducible show wpList _ _ _ (Oper.mk _ (Op.store _ _ _) _ _ _ _ :: _) _ _); refine wpList_storeB rfl 50 _ _ rfl S 1 [.slice A0 (prs.map prc0).length c0, .slice A1 j c1, .slice none 0 0] (.slice A2 (j + 1) c2) rfl rfl HB5.out (Nat.succ_lt_succ (Nat.succ_pos 1)) s1Rscs rfl ?_)
              intro w7 hb7 hg7
              have HN7 : Hid (NewM w S A0 A2 c0 c2 (prs.map prc0) ((rs.take (j + 1)).map rsc0) w7) := Lib.hid (by
                rw [HTK.out]
                refine ⟨HW5.out.trans (grown_below hg7 HW5.out.size fun k e => by injection e with e; rw [← e, HSE.out]; exact Nat.le_refl _), ?_, HP5.out.kept hg7 ?_, ?_, by rw [HSE.out]; exact Nat.le_refl _, HNM.out.a0, HA2.out⟩
                · rw [List.length_append, HLJ.out, List.length_map]; exact hb7
                · cases hA0 : A0.map (·.block) with
                  | none => exact .inl rfl
                  | some g => exact .inr fun e => (HNM.out.a0 g hA0).2 (by injection e)
                · rw [List.length_append, HLJ.out, List.map_append, List.flatten_append, ← HXS.out]
                  have h8 := HR5.out.kept hg7 (.inr fun e => (HA2.out S e).2.1 rfl)
                  simpa [rcell0, rcells, rsc0] using h8)
              clear hb7 hg7 HB5 HG5 HR5 HA2 HW5 HP5 HTK HXS
              go_wp2
              go_roundw
              case rel => exact ⟨j + 1, A2, c2, by omega, by go_num, HN7.out⟩
              case measure => simp [intOf]; omega
        · have hjn : j = nr := by omega
          have HRES : Hid (NewRes w (P0 prs rs) (.returned (.tuple #[.pointer (some ⟨S, 0, none⟩), .int .i64 0])) wr) := Lib.hid (by
            have h7 := hnm
            rw [hjn, HNR.out, List.take_length] at h7
            refine h7.done fun x hx => ?_
            obtain ⟨y, _, rfl⟩ := List.mem_map.1 hx
            exact ⟨rfl, rfl⟩)
          subst hjn
          clear hnm HNM HN1
          go_wp2
          go_ret2
          exact HRES.out
end Go.Proofs.Ytgeffkdobnipgaa
/- Two outcomes compared as values. -/
namespace Go.Proofs.Ytgeffkdobnipgaa
open Go.RowKit Nac Nac.Procs
theorem fieldsOut : Try.prog.underlying 37 = some (.struct (Try.prog.fieldsOf 37)) := by kernel_rfl
theorem stoodOut : Try.prog.stoodInHeld 37 = false := by kernel_rfl
theorem partsOut : (Try.prog.fieldsOf 37).toList.map (fun f => (f.name != "_", f.type, f.offset)) = [(true, 25, 0), (true, 2, 1), (true, 4, 2)] := by kernel_rfl
theorem uErrno : Try.prog.underlying 25 = some (.int .i64) := by kernel_rfl
theorem uI64 : Try.prog.underlying 2 = some (.int .i64) := by kernel_rfl
theorem uBool : Try.prog.underlying 4 = some .bool := by kernel_rfl
theorem kErrno : Try.prog.plainKey 25 = true := by kernel_rfl
theorem kI64 : Try.prog.plainKey 2 = true := by kernel_rfl
theorem kBool : Try.prog.plainKey 4 = true := by kernel_rfl
theorem eqFields_cons (w : World) (d : Nat) (xs ys : Array Value) (f : Field) (fs : List Field) (a b : Value) (r : Bool) (hn : (f.name != "_") = true)
    (h1 : (part f.type xs f.offset).run Try.prog w = .ok a w) (h2 : (part f.type ys f.offset).run Try.prog w = .ok b w) (h3 : (Op.equalIn d f.type a b).run Try.prog w = .ok r w) (r' : Bool)
    (h4 : (Op.eqFields d xs ys fs).run Try.prog w = .ok r' w) : (Op.eqFields d xs ys (f :: fs)).run Try.prog w = .ok (r && r') w := by
  have hn' : f.name ≠ "_" := by simpa using hn
  simp only [Op.eqFields, hn', ne_eq, not_false_eq_true, if_true, Sem.run_bind, h1, h2, h3, Result.andThen_ok]
  cases r
  · simp
  · simpa using h4
def outEq (x y : Out) : Bool := (x.code == y.code) && ((x.value == y.value) && ((x.waits == y.waits) && true))
theorem outEq_self (x : Out) : outEq x x = true := by simp [outEq]
theorem outEq_iff {x y : Out} : outEq x y = true ↔ x = y := by
  obtain ⟨a, b, c⟩ := x
  obtain ⟨a', b', c'⟩ := y
  simp [outEq]
theorem run_equal_out (w : World) (x y : Out) : (Op.equal 37 (.agg (ocs x).toArray) (.agg (ocs y).toArray)).run Try.prog w = .ok (outEq x y) w := by
  unfold Op.equal Op.maxDepth
  rw [run_equalIn_struct w 9999 _ _ _ fieldsOut stoodOut]
  have hf := partsOut
  have hlen : (Try.prog.fieldsOf 37).toList.length = 3 := by simpa using congrArg List.length hf
  match hL : (Try.prog.fieldsOf 37).toList, hlen with
  | [f0, f1, f2], _ =>
    rw [hL] at hf
    simp only [List.map_cons, List.map_nil, List.cons.injEq, Prod.mk.injEq, and_true] at hf
    obtain ⟨⟨n0, t0, o0⟩, ⟨n1, t1, o1⟩, ⟨n2, t2, o2⟩⟩ := hf
    have e0 : (Op.equalIn 9999 f0.type (.int .i64 x.code) (.int .i64 y.code)).run Try.prog w = .ok (x.code == y.code) w := by rw [t0]; exact run_equalIn_int w 9998 _ _ _ _ _ uErrno
    have e1 : (Op.equalIn 9999 f1.type (.int .i64 x.value) (.int .i64 y.value)).run Try.prog w = .ok (x.value == y.value) w := by rw [t1]; exact run_equalIn_int w 9998 _ _ _ _ _ uI64
    have e2 : (Op.equalIn 9999 f2.type (.bool x.waits) (.bool y.waits)).run Try.prog w = .ok (x.waits == y.waits) w := by rw [t2]; exact run_equalIn_bool w 9998 _ _ _ uBool
    exact eqFields_cons w 9999 (ocs x).toArray (ocs y).toArray f0 [f1, f2] _ _ _ n0 (by rw [t0, o0]; exact run_part_plain w kErrno rfl) (by rw [t0, o0]; exact run_part_plain w kErrno rfl) e0 _
      (eqFields_cons w 9999 _ _ f1 [f2] _ _ _ n1 (by rw [t1, o1]; exact run_part_plain w kI64 rfl) (by rw [t1, o1]; exact run_part_plain w kI64 rfl) e1 _
        (eqFields_cons w 9999 _ _ f2 [] _ _ _ n2 (by rw [t2, o2]; exact run_part_plain w kBool rfl) (by rw [t2, o2]; exact run_part_plain w kBool rfl) e2 true (by simp [Op.eqFields])))
theorem guardOut : Try.prog.eqGuardType Try.prog.depth 37 = false := by kernel_rfl
theorem run_eql_out (w : World) (p q : Operand) (x y : Out) : (do eqGuard .eql 37 p q (.agg (ocs x).toArray) (.agg (ocs y).toArray); binOp .eql 37 (.agg (ocs x).toArray) (.agg (ocs y).toArray) : Sem Value).run Try.prog w = .ok (.bool (outEq x y)) w := by
  have h1 : (eqGuard .eql 37 p q (.agg (ocs x).toArray) (.agg (ocs y).toArray)).run Try.prog w = .ok () w := by
    simp [eqGuard, guardOut]
  rw [Sem.run_bind, h1]
  simp [binOp, run_equal_out w x y]
theorem run_neq_out (w : World) (p q : Operand) (x y : Out) : (do eqGuard .neq 37 p q (.agg (ocs x).toArray) (.agg (ocs y).toArray); binOp .neq 37 (.agg (ocs x).toArray) (.agg (ocs y).toArray) : Sem Value).run Try.prog w = .ok (.bool (!outEq x y)) w := by
  have h1 : (eqGuard .neq 37 p q (.agg (ocs x).toArray) (.agg (ocs y).toArray)).run Try.prog w = .ok () w := by
    simp [eqGuard, guardOut]
  rw [Sem.run_bind, h1]
  simp [binOp, run_equal_out w x y]
/-- what a set's calls leave, from ahead of its making -/
theorem FrS.out {B S : Nat} {A A' : Nat → Option Addr} {w w1 w' : World} (hb : Below B w w1) (hf : FrS S A w1 A' w') (hfr : ∀ k, Foot S A k → B ≤ k) (hB : B ≤ w.heap.size) : Below B w w' :=
  ⟨hf.os.trans hb.os, hf.tape.trans hb.tape, hf.output.trans hb.output, Nat.le_trans hb.size hf.size, fun k hk => by
    rw [hf.block k (Nat.lt_of_lt_of_le hk (Nat.le_trans hB hb.size)) fun h => by have := hfr k h; omega]
    exact hb.block k hk⟩
end Go.Proofs.Ytgeffkdobnipgaa
/- The chapter's examples hold. -/
namespace Nac.Procs
def aw0 : PSet := P0 [1, 2] [⟨0, 0, 1⟩]
def aw1 : PSet := (startS aw0 0).2
def aw2 : PSet := (startS aw1 1).2
def aw3 : PSet := (takeS aw2 0 5).2
def aw4 : PSet := (giveS aw3 0 0 0).2
def aw5 : PSet := (takeS aw4 0 2).2
def aw6 : PSet := tickS aw5
def aw7 : PSet := tickS aw6
theorem aw_ok : OkNew [1, 2] [⟨0, 0, 1⟩] := ⟨by decide, by decide, by decide, by simp, fun r hr => by simp at hr; subst hr; exact ⟨.inl rfl, by decide, by decide, by decide, by decide, by decide, fun e => absurd e (by decide)⟩⟩
theorem aw_i0 : Inv aw0 := P0_inv aw_ok
theorem aw_i1 : Inv aw1 := start_inv aw_i0 0
theorem aw_i2 : Inv aw2 := start_inv aw_i1 1
theorem aw_i3 : Inv aw3 := take_inv aw_i2 0 5
theorem aw_i4 : Inv aw4 := give_inv aw_i3 0 0 0
theorem aw_i5 : Inv aw5 := take_inv aw_i4 0 2
theorem aw_i6 : Inv aw6 := tick_inv aw_i5
theorem aw_i7 : Inv aw7 := tick_inv aw_i6
theorem aw_r2 : runI aw2 = 1 := by decide
theorem aw_r3 : runI aw3 = 0 := by decide
theorem aw_r4 : runI aw4 = 1 := by decide
theorem aw_r7 : runI aw7 = 1 := by decide
theorem aw_t3 : (takeS aw2 0 5).1 = waits := by decide
theorem aw_g4 : (giveS aw3 0 0 0).1 = ok := by decide
theorem aw_l7 : lastO aw7 1 = errO 131 := by decide
end Nac.Procs
namespace Go.Proofs.Ytgeffkdobnipgaa
open Go.RowKit Nac Nac.Procs
theorem build2_int (w : World) (x y : Int) : (Instr.buildSlice 28 2 #[(0, .int .i64 x), (1, .int .i64 y)]).run Try.prog w = .ok (.slice (some ⟨w.heap.size, 0, none⟩) 2 2) (w.alloc (.cells #[.int .i64 x, .int .i64 y] 3)) := by
  obtain ⟨ti, hi, hz, hs1, hb1⟩ := info_parts Try.infoIt
  refine run_buildSlice w _ _ 2 _ _ ti _ Try.underlying28 hi hz (by rw [hs1]; decide) (by rw [hs1]; decide) ?_
  rw [hs1]; kernel_rfl
theorem field_code (w : World) : (Instr.field 37 (.agg #[.int .i64 131, .int .i64 0, .bool false]) 0).run Try.prog w = .ok (.int .i64 131) w := by kernel_rfl
theorem Try.infoRin : (Try.prog.info? 30).map (fun i => (i.zero, i.size, i.bytes)) = some (some (.agg #[.int .i64 0, .int .i64 0, .int .i64 0]), 3, 24) := by kernel_rfl
theorem build1_rin (w : World) (x y z : Int) : (Instr.buildSlice 31 1 #[(0, .agg #[.int .i64 x, .int .i64 y, .int .i64 z])]).run Try.prog w = .ok (.slice (some ⟨w.heap.size, 0, none⟩) 1 1) (w.alloc (.cells #[.int .i64 x, .int .i64 y, .int .i64 z] 30)) := by
  obtain ⟨ti, hi, hz, hs1, hb1⟩ := info_parts Try.infoRin
  refine run_buildSlice w _ _ 1 _ _ ti _ Try.underlying31 hi hz (by rw [hs1]; decide) (by rw [hs1]; decide) ?_
  rw [hs1]; kernel_rfl
theorem wpList_loadSw {T : TypeId} {n : Nat} {w : World} {ops : Array Oper} {rest : List Oper} {o : Oper} {a : Act} {Q : Exit → Act → World → Prop} (hS : SInfo T n) (hw : Region.wanted o (yielded ops a.tmps) = true) (x : Operand) (hop : o.op = .load T x) (b : Nat) (cs : List Value) (hx : a.eval x = .pointer (some ⟨b, 0, none⟩)) (hb : Blk w b cs) (hl : cs.length = n)
    (h : wpList Try.prog ops Q rest (a.put o.dst (.agg cs.toArray)) w) : wpList Try.prog ops Q (o :: rest) a w := by
  unfold wpList
  rw [if_pos hw]
  refine Or.inl ?_
  unfold Oper.wp
  have e : (execOp a.eval o).run Try.prog w = .ok (.value (.agg cs.toArray)) w := by
    unfold execOp
    simp only [hop, hx, Instr.loadAt, Instr.sureAddr, Sem.run_bind, Sem.run_pure, Result.andThen_ok, run_loadS hS b cs hb hl]
  rw [e]
  exact h
set_option maxRecDepth 100000 in
set_option maxHeartbeats 2000000 in
theorem awake_calls (w : World) : Calls Try.prog 9 #[] w (RetBb w true) := by
  have hbi := build2_int
  have hbr := build1_rin
  have HRI : Hid (RI ((w.alloc (.cells #[.int .i64 1, .int .i64 2] 3)).alloc (.cells #[.int .i64 0, .int .i64 0, .int .i64 1] 30)) (w.heap.size + 1 + 1) (some ⟨w.heap.size, 0, none⟩) [1, 2]) := Lib.hid fun _ => ⟨_, _, rfl, by omega, fun j hj => by
    have hb := (Blk.new w [.int .i64 1, .int .i64 2] 3).alloc (.cells #[.int .i64 0, .int .i64 0, .int .i64 1] 30)
    rw [Nat.zero_add]
    rcases (by simp at hj; omega : j = 0 ∨ j = 1) with rfl | rfl
    · exact hb.cell rfl
    · exact hb.cell rfl⟩
  have HRR : Hid (RR ((w.alloc (.cells #[.int .i64 1, .int .i64 2] 3)).alloc (.cells #[.int .i64 0, .int .i64 0, .int .i64 1] 30)) (w.heap.size + 1 + 1) (some ⟨w.heap.size + 1, 0, none⟩) [⟨0, 0, 1⟩]) := Lib.hid fun _ => ⟨_, _, rfl, by omega, fun j hj => by
    have hb := Blk.new (w.alloc (.cells #[.int .i64 1, .int .i64 2] 3)) [.int .i64 0, .int .i64 0, .int .i64 1] 30
    have hs : (w.alloc (.cells #[.int .i64 1, .int .i64 2] 3)).heap.size = w.heap.size + 1 := by simp
    rw [hs] at hb
    obtain rfl : j = 0 := by simp at hj; omega
    exact ⟨hb.cell rfl, hb.cell rfl, hb.cell rfl⟩⟩
  have HB0 : Hid (Below w.heap.size w ((w.alloc (.cells #[.int .i64 1, .int .i64 2] 3)).alloc (.cells #[.int .i64 0, .int .i64 0, .int .i64 1] 30))) := Lib.hid (((Below.refl _ _).alloc (Nat.le_refl _) _).alloc (by simp) _)
  have HSZ : Hid (((w.alloc (.cells #[.int .i64 1, .int .i64 2] 3)).alloc (.cells #[.int .i64 0, .int .i64 0, .int .i64 1] 30)).heap.size = w.heap.size + 1 + 1) := Lib.hid (by simp)
  obtain ⟨W, hW⟩ : ∃ W, W = ((w.alloc (.cells #[.int .i64 1, .int .i64 2] 3)).alloc (.cells #[.int .i64 0, .int .i64 0, .int .i64 1] 30)) := ⟨_, rfl⟩
  rw [← hW] at HRI HRR HB0 HSZ
  have HWW := Lib.hid hW
  clear hW
  go_enter Try.func9, Try.ntmps9
  go_wp2_with fail
  rw [← HWW.out]
  refine (new_ok W _ _ _ _ [1, 2] [⟨0, 0, 1⟩] 2 1 rfl rfl (by rw [HSZ.out]; exact HRI.out) (by rw [HSZ.out]; exact HRR.out) aw_ok).mono ?_
  rintro e w1 ⟨S, A1, c1, rfl, hm1, hfr, hbe⟩
  have H1 : Hid (SetM w1 S aw0 A1 c1) := Lib.hid hm1
  have HF1 : Hid (FrS S A1 w1 A1 w1) := Lib.hid (FrS.refl S A1 w1)
  have HFR : Hid (∀ k, Foot S A1 k → w.heap.size ≤ k) := Lib.hid fun k hk => by have := hfr k hk; rw [HSZ.out] at this; omega
  have HBW : Hid (Below w.heap.size w w1) := Lib.hid (HB0.out.trans (hbe.mono (by rw [HSZ.out]; omega)))
  clear hm1 hfr hbe HRI HRR HB0 HSZ HWW hbi hbr
  go_wp2_with fail
  refine (Start_calls w1 S aw0 A1 c1 H1.out aw_i0 0).mono ?_
  rintro e w2 ⟨rfl, A2, c2, h2, hf2⟩
  have H2 : Hid (SetM w2 S aw1 A2 c2) := Lib.hid h2
  have HF2 := Lib.hid (HF1.out.trans hf2)
  clear h2 hf2
  clear H1 HF1
  go_wp2_with fail
  refine (Start_calls w2 S aw1 A2 c2 H2.out aw_i1 1).mono ?_
  rintro e w3 ⟨rfl, A3, c3, h3, hf3⟩
  have H3 : Hid (SetM w3 S aw2 A3 c3) := Lib.hid h3
  have HF3 := Lib.hid (HF2.out.trans hf3)
  clear h3 hf3
  clear H2 HF2
  go_wp2_with fail
  refine (Running_calls w3 S aw2 A3 c3 H3.out aw_i2.wf.n (by have := aw_i2.rlen; omega) aw_i2.rin).mono ?_
  rintro e w4 ⟨rfl, hb4⟩
  obtain ⟨A4, hA4⟩ : ∃ X, X = A3 := ⟨_, rfl⟩
  obtain ⟨c4, hc4⟩ : ∃ X, X = c3 := ⟨_, rfl⟩
  have hf4 : FrS S A3 w3 A4 w4 := by rw [hA4]; exact FrS.below hb4
  have H4 : Hid (SetM w4 S _ A4 c4) := Lib.hid (by rw [hA4, hc4]; exact H3.out.below hb4)
  have HF4 := Lib.hid (HF3.out.trans hf4)
  clear hf4 hb4 hA4 hc4
  clear H3 HF3
  rw [aw_r2]
  go_wp2_with fail
  refine (Take_calls w4 S aw2 A4 c4 H4.out aw_i2 0 5).mono ?_
  rintro e w5 ⟨rfl, A5, c5, h5, hf5⟩
  have H5 : Hid (SetM w5 S aw3 A5 c5) := Lib.hid h5
  have HF5 := Lib.hid (HF4.out.trans hf5)
  clear h5 hf5
  clear H4 HF4
  rw [aw_t3]
  go_wp2_with ((with_reducible show wpList _ _ _ (Oper.mk _ (Op.alloc 37) _ _ _ _ :: _) _ _); refine wpList_allocS _ zOut rfl rfl ?_)
  intro w6 hb hg hs
  obtain ⟨b4, hbe⟩ : ∃ b, b = w5.heap.size := ⟨_, rfl⟩
  rw [← hbe] at hb ⊢
  obtain ⟨A6, hA6⟩ : ∃ X, X = A5 := ⟨_, rfl⟩
  obtain ⟨c6, hc6⟩ : ∃ X, X = c5 := ⟨_, rfl⟩
  have hf6 : FrS S A5 w5 A6 w6 := by rw [hA6]; exact FrS.grown hg fun k e => by cases e
  have H6 : Hid (SetM w6 S _ A6 c6) := Lib.hid (by rw [hA6, hc6]; exact H5.out.apart hg fun k e => by cases e)
  have HF6 := Lib.hid (HF5.out.trans hf6)
  have NFb4_6 : Hid (¬ Foot S A6 b4) := Lib.hid (by rw [hA6]; exact H5.out.notFoot (by rw [hbe]; exact Nat.le_refl _))
  have BXb4_6 := Lib.hid hb
  have HLb4 : Hid (w1.heap.size ≤ b4) := Lib.hid (by rw [hbe]; exact HF5.out.size)
  clear hb hg hs hbe hA6 hc6 hf6
  clear H5 HF5
  go_wp2_with ((with_reducible show wpList _ _ _ (Oper.mk _ (Op.store 37 _ _) _ _ _ _ :: _) _ _); refine wpList_storeS sOut rfl _ _ rfl b4 [.int .i64 0, .int .i64 0, .bool false] (ocs waits) rfl rfl BXb4_6.out rfl rfl (ocs_one _) ?_)
  intro w7 hb hg
  obtain ⟨A7, hA7⟩ : ∃ X, X = A6 := ⟨_, rfl⟩
  obtain ⟨c7, hc7⟩ : ∃ X, X = c6 := ⟨_, rfl⟩
  have H7 : Hid (SetM w7 S _ A7 c7) := Lib.hid (by rw [hA7, hc7]; exact H6.out.keepB hg NFb4_6.out)
  have HF7 : Hid (FrS S A1 w1 A7 w7) := Lib.hid (by rw [hA7]; exact HF6.out.bump hg HLb4.out)
  have NFb4_7 : Hid (¬ Foot S A7 b4) := Lib.hid (by rw [hA7]; exact NFb4_6.out)
  have BXb4_7 := Lib.hid hb
  clear hb hg hA7 hc7
  clear H6 HF6 NFb4_6 BXb4_6
  go_wp2_with fail
  refine (Running_calls w7 S aw3 A7 c7 H7.out aw_i3.wf.n (by have := aw_i3.rlen; omega) aw_i3.rin).mono ?_
  rintro e w8 ⟨rfl, hb8⟩
  obtain ⟨A8, hA8⟩ : ∃ X, X = A7 := ⟨_, rfl⟩
  obtain ⟨c8, hc8⟩ : ∃ X, X = c7 := ⟨_, rfl⟩
  have hf8 : FrS S A7 w7 A8 w8 := by rw [hA8]; exact FrS.below hb8
  have H8 : Hid (SetM w8 S _ A8 c8) := Lib.hid (by rw [hA8, hc8]; exact H7.out.below hb8)
  have HF8 := Lib.hid (HF7.out.trans hf8)
  have NFb4_8 : Hid (¬ Foot S A8 b4) := Lib.hid (hf8.nf NFb4_7.out BXb4_7.out.lt)
  have BXb4_8 : Hid (Blk w8 b4 (ocs waits)) := Lib.hid (hf8.blk BXb4_7.out NFb4_7.out)
  clear hf8 hb8 hA8 hc8
  clear H7 HF7 NFb4_7 BXb4_7
  rw [aw_r3]
  go_wp2_with fail
  refine (Give_calls w8 S aw3 A8 c8 H8.out aw_i3 0 0 0).mono ?_
  rintro e w9 ⟨rfl, A9, c9, h9, hf9⟩
  have H9 : Hid (SetM w9 S aw4 A9 c9) := Lib.hid h9
  have HF9 := Lib.hid (HF8.out.trans hf9)
  have NFb4_9 : Hid (¬ Foot S A9 b4) := Lib.hid (hf9.nf NFb4_8.out BXb4_8.out.lt)
  have BXb4_9 : Hid (Blk w9 b4 (ocs waits)) := Lib.hid (hf9.blk BXb4_8.out NFb4_8.out)
  clear h9 hf9
  clear H8 HF8 NFb4_8 BXb4_8
  rw [aw_g4]
  go_wp2_with ((with_reducible show wpList _ _ _ (Oper.mk _ (Op.alloc 37) _ _ _ _ :: _) _ _); refine wpList_allocS _ zOut rfl rfl ?_)
  intro w10 hb hg hs
  obtain ⟨b6, hbe⟩ : ∃ b, b = w9.heap.size := ⟨_, rfl⟩
  rw [← hbe] at hb ⊢
  obtain ⟨A10, hA10⟩ : ∃ X, X = A9 := ⟨_, rfl⟩
  obtain ⟨c10, hc10⟩ : ∃ X, X = c9 := ⟨_, rfl⟩
  have hf10 : FrS S A9 w9 A10 w10 := by rw [hA10]; exact FrS.grown hg fun k e => by cases e
  have H10 : Hid (SetM w10 S _ A10 c10) := Lib.hid (by rw [hA10, hc10]; exact H9.out.apart hg fun k e => by cases e)
  have HF10 := Lib.hid (HF9.out.trans hf10)
  have NFb6_10 : Hid (¬ Foot S A10 b6) := Lib.hid (by rw [hA10]; exact H9.out.notFoot (by rw [hbe]; exact Nat.le_refl _))
  have BXb6_10 := Lib.hid hb
  have HLb6 : Hid (w1.heap.size ≤ b6) := Lib.hid (by rw [hbe]; exact HF9.out.size)
  have NEb4b6 : Hid (b6 ≠ b4) := Lib.hid (by have := BXb4_9.out.lt; omega)
  have NFb4_10 : Hid (¬ Foot S A10 b4) := Lib.hid (hf10.nf NFb4_9.out BXb4_9.out.lt)
  have BXb4_10 : Hid (Blk w10 b4 (ocs waits)) := Lib.hid (hf10.blk BXb4_9.out NFb4_9.out)
  clear hb hg hs hbe hA10 hc10 hf10
  clear H9 HF9 NFb4_9 BXb4_9
  go_wp2_with ((with_reducible show wpList _ _ _ (Oper.mk _ (Op.store 37 _ _) _ _ _ _ :: _) _ _); refine wpList_storeS sOut rfl _ _ rfl b6 [.int .i64 0, .int .i64 0, .bool false] (ocs ok) rfl rfl BXb6_10.out rfl rfl (ocs_one _) ?_)
  intro w11 hb hg
  obtain ⟨A11, hA11⟩ : ∃ X, X = A10 := ⟨_, rfl⟩
  obtain ⟨c11, hc11⟩ : ∃ X, X = c10 := ⟨_, rfl⟩
  have H11 : Hid (SetM w11 S _ A11 c11) := Lib.hid (by rw [hA11, hc11]; exact H10.out.keepB hg NFb6_10.out)
  have HF11 : Hid (FrS S A1 w1 A11 w11) := Lib.hid (by rw [hA11]; exact HF10.out.bump hg HLb6.out)
  have NFb6_11 : Hid (¬ Foot S A11 b6) := Lib.hid (by rw [hA11]; exact NFb6_10.out)
  have BXb6_11 := Lib.hid hb
  have NFb4_11 : Hid (¬ Foot S A11 b4) := Lib.hid (by rw [hA11]; exact NFb4_10.out)
  have BXb4_11 : Hid (Blk w11 b4 (ocs waits)) := Lib.hid (BXb4_10.out.grown hg (fun e => by injection e with e; exact NEb4b6.out e))
  clear hb hg hA11 hc11
  clear H10 HF10 NFb4_10 BXb4_10 NFb6_10 BXb6_10
  go_wp2_with fail
  refine (Running_calls w11 S aw4 A11 c11 H11.out aw_i4.wf.n (by have := aw_i4.rlen; omega) aw_i4.rin).mono ?_
  rintro e w12 ⟨rfl, hb12⟩
  obtain ⟨A12, hA12⟩ : ∃ X, X = A11 := ⟨_, rfl⟩
  obtain ⟨c12, hc12⟩ : ∃ X, X = c11 := ⟨_, rfl⟩
  have hf12 : FrS S A11 w11 A12 w12 := by rw [hA12]; exact FrS.below hb12
  have H12 : Hid (SetM w12 S _ A12 c12) := Lib.hid (by rw [hA12, hc12]; exact H11.out.below hb12)
  have HF12 := Lib.hid (HF11.out.trans hf12)
  have NFb4_12 : Hid (¬ Foot S A12 b4) := Lib.hid (hf12.nf NFb4_11.out BXb4_11.out.lt)
  have BXb4_12 : Hid (Blk w12 b4 (ocs waits)) := Lib.hid (hf12.blk BXb4_11.out NFb4_11.out)
  have NFb6_12 : Hid (¬ Foot S A12 b6) := Lib.hid (hf12.nf NFb6_11.out BXb6_11.out.lt)
  have BXb6_12 : Hid (Blk w12 b6 (ocs ok)) := Lib.hid (hf12.blk BXb6_11.out NFb6_11.out)
  clear hf12 hb12 hA12 hc12
  clear H11 HF11 NFb4_11 BXb4_11 NFb6_11 BXb6_11
  rw [aw_r4]
  go_wp2_with fail
  refine (Take_calls w12 S aw4 A12 c12 H12.out aw_i4 0 2).mono ?_
  rintro e w13 ⟨rfl, A13, c13, h13, hf13⟩
  have H13 : Hid (SetM w13 S aw5 A13 c13) := Lib.hid h13
  have HF13 := Lib.hid (HF12.out.trans hf13)
  have NFb4_13 : Hid (¬ Foot S A13 b4) := Lib.hid (hf13.nf NFb4_12.out BXb4_12.out.lt)
  have BXb4_13 : Hid (Blk w13 b4 (ocs waits)) := Lib.hid (hf13.blk BXb4_12.out NFb4_12.out)
  have NFb6_13 : Hid (¬ Foot S A13 b6) := Lib.hid (hf13.nf NFb6_12.out BXb6_12.out.lt)
  have BXb6_13 : Hid (Blk w13 b6 (ocs ok)) := Lib.hid (hf13.blk BXb6_12.out NFb6_12.out)
  clear h13 hf13
  clear H12 HF12 NFb4_12 BXb4_12 NFb6_12 BXb6_12
  go_wp2_with fail
  refine (Tick_calls w13 S aw5 A13 c13 H13.out aw_i5).mono ?_
  rintro e w14 ⟨rfl, A14, c14, h14, hf14⟩
  have H14 : Hid (SetM w14 S aw6 A14 c14) := Lib.hid h14
  have HF14 := Lib.hid (HF13.out.trans hf14)
  have NFb4_14 : Hid (¬ Foot S A14 b4) := Lib.hid (hf14.nf NFb4_13.out BXb4_13.out.lt)
  have BXb4_14 : Hid (Blk w14 b4 (ocs waits)) := Lib.hid (hf14.blk BXb4_13.out NFb4_13.out)
  have NFb6_14 : Hid (¬ Foot S A14 b6) := Lib.hid (hf14.nf NFb6_13.out BXb6_13.out.lt)
  have BXb6_14 : Hid (Blk w14 b6 (ocs ok)) := Lib.hid (hf14.blk BXb6_13.out NFb6_13.out)
  clear h14 hf14
  clear H13 HF13 NFb4_13 BXb4_13 NFb6_13 BXb6_13
  go_wp2_with fail
  refine (Tick_calls w14 S aw6 A14 c14 H14.out aw_i6).mono ?_
  rintro e w15 ⟨rfl, A15, c15, h15, hf15⟩
  have H15 : Hid (SetM w15 S aw7 A15 c15) := Lib.hid h15
  have HF15 := Lib.hid (HF14.out.trans hf15)
  have NFb4_15 : Hid (¬ Foot S A15 b4) := Lib.hid (hf15.nf NFb4_14.out BXb4_14.out.lt)
  have BXb4_15 : Hid (Blk w15 b4 (ocs waits)) := Lib.hid (hf15.blk BXb4_14.out NFb4_14.out)
  have NFb6_15 : Hid (¬ Foot S A15 b6) := Lib.hid (hf15.nf NFb6_14.out BXb6_14.out.lt)
  have BXb6_15 : Hid (Blk w15 b6 (ocs ok)) := Lib.hid (hf15.blk BXb6_14.out NFb6_14.out)
  clear h15 hf15
  clear H14 HF14 NFb4_14 BXb4_14 NFb6_14 BXb6_14
  have HEQ : Hid (∀ (w : World) (p q : Operand) (x y : Out), (do eqGuard .eql 37 p q (.agg (ocs x).toArray) (.agg (ocs y).toArray); binOp .eql 37 (.agg (ocs x).toArray) (.agg (ocs y).toArray) : Sem Value).run Try.prog w = .ok (.bool (outEq x y)) w) := Lib.hid run_eql_out
  go_wp2_with (first
    | ((with_reducible show wpList _ _ _ (Oper.mk _ (Op.load 37 (.tmp 4)) _ _ _ _ :: _) _ _); refine wpList_loadSw sOut (by rfl) _ rfl b4 (ocs waits) rfl BXb4_15.out rfl ?_)
    | ((with_reducible show wpList _ _ _ (Oper.mk _ (Op.load 37 (.tmp 6)) _ _ _ _ :: _) _ _); refine wpList_loadSw sOut (by rfl) _ rfl b6 (ocs ok) rfl BXb6_15.out rfl ?_)
    | ((with_reducible show wpList _ _ _ (Oper.mk (some 42) (Op.binOp BinOp.eql 37 _ _ _) _ _ _ _ :: _) _ _); refine wpList_binV (by rfl) _ _ _ _ _ rfl (.bool true) (HEQ.out _ _ _ waits waits) ?_)
    | ((with_reducible show wpList _ _ _ (Oper.mk (some 51) (Op.binOp BinOp.eql 37 _ _ _) _ _ _ _ :: _) _ _); refine wpList_binV (by rfl) _ _ _ _ _ rfl (.bool true) (HEQ.out _ _ _ ok ok) ?_)
    | fail)
  refine (Running_calls w15 S aw7 A15 c15 H15.out aw_i7.wf.n (by have := aw_i7.rlen; omega) aw_i7.rin).mono ?_
  rintro e w16 ⟨rfl, hb16⟩
  have H16 : Hid (SetM w16 S aw7 A15 c15) := Lib.hid (H15.out.below hb16)
  have HB16 : Hid (Below w.heap.size w w16) := Lib.hid ((HF15.out.out HBW.out HFR.out (Nat.le_refl _)).trans (hb16.mono (Nat.le_trans HBW.out.size HF15.out.size)))
  clear hb16
  clear H15 HF15 NFb4_15 BXb4_15 NFb6_15 BXb6_15
  rw [aw_r7]
  go_wp2_with fail
  refine (Last_calls w16 S aw7 A15 c15 H16.out aw_i7 1).mono ?_
  rintro e w17 ⟨rfl, hb17⟩
  have HZ : Hid (Below w.heap.size w w17) := Lib.hid (HB16.out.trans (hb17.mono HB16.out.size))
  clear hb17 H16 HB16 HEQ
  have hfl := field_code
  rw [aw_l7, show (ocs (errO 131)).toArray = #[.int .i64 131, .int .i64 0, .bool false] from rfl]
  go_wp2
  go_ret
  exact ⟨rfl, HZ.out⟩
end Go.Proofs.Ytgeffkdobnipgaa
/- The document's set in memory: six rows under one head, and a row of items for each resource. -/
namespace Go.Proofs.Ytgeffkdobnipgaa
open Go.RowKit Nac Nac.Procs
def tyR : Nat → TypeId
  | 0 => 3
  | 1 => 30
  | 2 => 3
  | 3 => 83
  | 4 => 56
  | 5 => 37
  | _ => 2
def szR : Nat → Nat
  | 1 => 3
  | 3 => 4
  | 5 => 3
  | _ => 1
def upL (L : Nat → List Value) (k : Nat) (x : List Value) : Nat → List Value := fun j => if j = k then x else L j
theorem upL_same (L : Nat → List Value) (k : Nat) (x : List Value) : upL L k x k = x := if_pos rfl
theorem upL_ne (L : Nat → List Value) {k j : Nat} (x : List Value) (h : j ≠ k) : upL L k x j = L j := if_neg h
structure Mem (w : World) (R k : Nat) (L : Nat → List Value) (n : Nat → Nat) (A : Nat → Option Addr) (c : Nat → Nat) : Prop where
  blk : Blk w R [.slice (A 0) (n 0) (c 0), .slice (A 1) (n 1) (c 1), .slice (A 2) (n 2) (c 2), .slice (A 3) (n 3) (c 3), .slice (A 4) (n 4) (c 4), .slice (A 5) (n 5) (c 5)]
  row : ∀ j, Row w (tyR j) (szR j) (A j) (c j) (n j) (L j)
  l4 : L 4 = (List.range k).map fun i => Value.slice (A (6 + i)) (n (6 + i)) (c (6 + i))
  ap : ∀ i j g, i ≠ j → (A i).map (·.block) = some g → (A j).map (·.block) ≠ some g
  aps : ∀ j, (A j).map (·.block) ≠ some R
section
variable {w w' : World} {R k : Nat} {L : Nat → List Value} {n : Nat → Nat} {A : Nat → Option Addr} {c : Nat → Nat}
theorem Mem.keepF (h : Mem w R k L n A c) (hk : ∀ b, b < w.heap.size → Foot R A b → w'.heap[b]? = w.heap[b]?) : Mem w' R k L n A c := by
  refine ⟨h.blk.keep (hk R h.blk.lt (.inl rfl)), fun j => ?_, h.l4, h.ap, h.aps⟩
  have hr := h.row j
  refine ⟨hr.1, ?_⟩
  rcases hr.2 with h1 | ⟨g, cap, cur, hv, hb, hg, rest⟩
  · exact .inl h1
  · refine .inr ⟨g, cap, cur, hv, hb, ?_, rest⟩
    injection hv with h1
    have hlt : g < w.heap.size := (Array.getElem?_eq_some_iff.1 hg).1
    rw [hk g hlt (.inr ⟨j, by rw [h1]; rfl⟩)]
    exact hg
theorem Mem.below (h : Mem w R k L n A c) (hb : Below w.heap.size w w') : Mem w' R k L n A c := h.keepF fun b hlt _ => hb.block b hlt
theorem Mem.apart (h : Mem w R k L n A c) {row : Option Nat} (hg : w.grownBy w' row) (hr : ∀ b, row = some b → ¬ Foot R A b) : Mem w' R k L n A c := h.keepF fun b hlt hf => hg.block b hlt fun e => hr b e.symm hf
theorem Mem.lt (h : Mem w R k L n A c) (j g : Nat) (hg : (A j).map (·.block) = some g) : g < w.heap.size := (h.row j).lt g hg
theorem Mem.notFoot (h : Mem w R k L n A c) {b : Nat} (hb : w.heap.size ≤ b) : ¬ Foot R A b := by
  rintro (rfl | ⟨j, hj⟩)
  · have := h.blk.lt; omega
  · have := h.lt j b hj; omega
theorem Mem.head (h : Mem w R k L n A c) {j : Nat} (hj : j < 6) : w.cell? ⟨R, j, none⟩ = some (.slice (A j) (n j) (c j)) := by
  rcases (by omega : j = 0 ∨ j = 1 ∨ j = 2 ∨ j = 3 ∨ j = 4 ∨ j = 5) with rfl | rfl | rfl | rfl | rfl | rfl <;> exact h.blk.cell rfl
theorem Mem.ap_up (h : Mem w R k L n A c) {j : Nat} {A2 : Option Addr} (hb : NewB w (A j) A2) : ∀ i l g, i ≠ l → (upA A j A2 i).map (·.block) = some g → (upA A j A2 l).map (·.block) ≠ some g := by
  intro i l g hil hi hl
  by_cases h1 : i = j
  · have h2 : l ≠ j := fun e => hil (h1.trans e.symm)
    rw [h1, upA_same] at hi
    rw [upA_ne A A2 h2] at hl
    rcases hb with e | e
    · rw [e] at hi; exact h.ap j l g (fun e => h2 e.symm) hi hl
    · have := e g hi; have := h.lt l g hl; omega
  · rw [upA_ne A A2 h1] at hi
    by_cases h2 : l = j
    · rw [h2, upA_same] at hl
      rcases hb with e | e
      · rw [e] at hl; exact h.ap i j g h1 hi hl
      · have := e g hl; have := h.lt i g hi; omega
    · rw [upA_ne A A2 h2] at hl
      exact h.ap i l g hil hi hl
theorem Mem.aps_up (h : Mem w R k L n A c) {j : Nat} {A2 : Option Addr} (hb : NewB w (A j) A2) : ∀ i, (upA A j A2 i).map (·.block) ≠ some R := by
  intro i hi
  by_cases h1 : i = j
  · rw [h1, upA_same] at hi
    rcases hb with e | e
    · rw [e] at hi; exact h.aps j hi
    · have := e R hi; have := h.blk.lt; omega
  · rw [upA_ne A A2 h1] at hi; exact h.aps i hi
theorem Mem.foot_up (_ : Mem w R k L n A c) {j : Nat} {A2 : Option Addr} (hb : NewB w (A j) A2) (x : Nat) (hf : Foot R (upA A j A2) x) : Foot R A x ∨ w.heap.size ≤ x := by
  rcases hf with rfl | ⟨i, hi⟩
  · exact .inl (.inl rfl)
  · by_cases h1 : i = j
    · rw [h1, upA_same] at hi
      rcases hb with e | e
      · exact .inl (.inr ⟨j, by rw [← e]; exact hi⟩)
      · exact .inr (e x hi)
    · rw [upA_ne A A2 h1] at hi
      exact .inl (.inr ⟨i, hi⟩)
theorem Mem.far (h : Mem w R k L n A c) {i j : Nat} (hij : i ≠ j) : (A i).map (·.block) = none ∨ (A i).map (·.block) ≠ (A j).map (·.block) := by
  cases hx : (A i).map (·.block) with
  | none => exact .inl rfl
  | some g => exact .inr fun e => h.ap i j g hij hx e.symm
/-- a row anew, its head in the set's block -/
theorem Mem.put (h : Mem w R k L n A c) {j : Nat} (hj2 : j = 2 ∨ j = 3) {A2 : Option Addr} {c2 n2 : Nat} {L2 : List Value} (hr : Row w' (tyR j) (szR j) A2 c2 n2 L2) (hg : w.grownBy w' ((A j).map (·.block))) (hb : NewB w (A j) A2) :
    Mem (w'.setCell ⟨R, j, none⟩ (.slice A2 n2 c2)) R k (upL L j L2) (upC n j n2) (upA A j A2) (upC c j c2) ∧ FrS R A w (upA A j A2) (w'.setCell ⟨R, j, none⟩ (.slice A2 n2 c2)) := by
  have hj6 : j < 6 := by omega
  have hR2 : (A j).map (·.block) ≠ some R := h.aps j
  have hblk := h.blk.grown hg hR2
  refine ⟨⟨?_, fun i => ?_, ?_, h.ap_up hb, h.aps_up hb⟩, ?_⟩
  · have hs := hblk.setCell j (.slice A2 n2 c2)
    rcases hj2 with rfl | rfl
    · exact hs
    · exact hs
  · by_cases e : i = j
    · subst e
      rw [upA_same, upC_same, upC_same, upL_same]
      refine hr.other ?_ _
      rcases hb with e | e
      · rw [e]; exact hR2
      · intro hx; have := e R hx; have := h.blk.lt; omega
    · rw [upA_ne A A2 e, upC_ne c c2 e, upC_ne n n2 e, upL_ne L L2 e]
      exact ((h.row i).kept hg (h.far e)).other (h.aps i) _
  · rw [upL_ne L L2 (by omega), h.l4]
    refine List.map_congr_left fun i _ => ?_
    rw [upA_ne A A2 (by omega), upC_ne n n2 (by omega), upC_ne c c2 (by omega)]
  · have f1 : FrS R A w A w' := FrS.grown hg fun b e => .inl (.inr ⟨j, e⟩)
    have f2 : FrS R A w' A (w'.setCell ⟨R, j, none⟩ (.slice A2 n2 c2)) := FrS.grown (grown_setCell _ _ _) fun b e => .inl (.inl (by injection e with e; exact e.symm))
    have f := f1.trans f2
    exact ⟨f.os, f.tape, f.output, f.size, f.block, fun b hb' => h.foot_up hb b hb', upA_ne A A2 (by omega), upA_ne A A2 (by omega)⟩
/-- a row of items anew -/
theorem Mem.putI (h : Mem w R k L n A c) {i : Nat} (hi : i < k) {g : Nat} (hA4 : A 4 = some ⟨g, 0, none⟩) {A2 : Option Addr} {c2 n2 : Nat} {L2 : List Value} (hr : Row w' 2 1 A2 c2 n2 L2) (hg : w.grownBy w' ((A (6 + i)).map (·.block))) (hb : NewB w (A (6 + i)) A2) :
    Mem (w'.setCell ⟨g, i, none⟩ (.slice A2 n2 c2)) R k (upL (upL L (6 + i) L2) 4 ((L 4).set i (.slice A2 n2 c2))) (upC n (6 + i) n2) (upA A (6 + i) A2) (upC c (6 + i) c2) ∧ FrS R A w (upA A (6 + i) A2) (w'.setCell ⟨g, i, none⟩ (.slice A2 n2 c2)) := by
  have hgA : (A 4).map (·.block) = some g := by rw [hA4]; rfl
  have hRg : g ≠ R := fun e => h.aps 4 (by rw [hgA, e])
  have hR2 : (A (6 + i)).map (·.block) ≠ some R := h.aps _
  have hg2 : (A (6 + i)).map (·.block) ≠ some g := h.ap 4 _ g (by omega) hgA
  refine ⟨⟨?_, fun j => ?_, ?_, h.ap_up hb, h.aps_up hb⟩, ?_⟩
  · have hs := (h.blk.grown hg hR2).grown (grown_setCell w' ⟨g, i, none⟩ (.slice A2 n2 c2)) (fun e => by injection e with e; exact hRg e)
    rw [upA_ne A A2 (by omega), upA_ne A A2 (by omega), upA_ne A A2 (by omega), upA_ne A A2 (by omega), upA_ne A A2 (by omega), upA_ne A A2 (by omega), upC_ne c c2 (by omega), upC_ne c c2 (by omega), upC_ne c c2 (by omega), upC_ne c c2 (by omega), upC_ne c c2 (by omega), upC_ne c c2 (by omega), upC_ne n n2 (by omega), upC_ne n n2 (by omega), upC_ne n n2 (by omega), upC_ne n n2 (by omega), upC_ne n n2 (by omega), upC_ne n n2 (by omega)]
    exact hs
  · by_cases e : j = 6 + i
    · subst e
      rw [upA_same, upC_same, upC_same, upL_ne _ _ (by omega), upL_same]
      have e1 : tyR (6 + i) = 2 := by rw [Nat.add_comm]; rfl
      have e2 : szR (6 + i) = 1 := by rw [Nat.add_comm]; rfl
      rw [e1, e2]
      refine hr.other ?_ _
      rcases hb with e | e
      · rw [e]; exact hg2
      · intro hx; have := e g hx; have := h.lt 4 g hgA; omega
    · rw [upA_ne A A2 e, upC_ne c c2 e, upC_ne n n2 e]
      by_cases e4 : j = 4
      · subst e4
        rw [upL_same]
        have hk := (h.row 4).kept hg (h.far e)
        rw [hA4] at hk ⊢
        exact hk.set i (.slice A2 n2 c2)
      · rw [upL_ne _ _ e4, upL_ne L L2 e]
        exact ((h.row j).kept hg (h.far e)).other (h.ap 4 j g (fun e => e4 e.symm) hgA) _
  · rw [upL_same, h.l4]
    refine List.ext_getElem (by simp) fun l h1 h2 => ?_
    simp only [List.getElem_map, List.getElem_range]
    by_cases e : l = i
    · subst e
      rw [List.getElem_set_self, upA_same, upC_same, upC_same]
    · rw [List.getElem_set_ne (fun e' => e e'.symm), upA_ne A A2 (by omega), upC_ne c c2 (by omega), upC_ne n n2 (by omega)]
      simp
  · have f1 : FrS R A w A w' := FrS.grown hg fun b e => .inl (.inr ⟨_, e⟩)
    have f2 : FrS R A w' A (w'.setCell ⟨g, i, none⟩ (.slice A2 n2 c2)) := FrS.grown (grown_setCell _ _ _) fun b e => .inl (.inr ⟨4, by injection e with e; rw [hgA]; exact congrArg some e⟩)
    have f := f1.trans f2
    exact ⟨f.os, f.tape, f.output, f.size, f.block, fun b hb' => h.foot_up hb b hb', upA_ne A A2 (by omega), upA_ne A A2 (by omega)⟩
/-- one cell of a row -/
theorem Mem.setC (h : Mem w R k L n A c) {j : Nat} (hj4 : j ≠ 4) {g : Nat} (hA : A j = some ⟨g, 0, none⟩) (pos : Nat) (v : Value) :
    Mem (w.setCell ⟨g, pos, none⟩ v) R k (upL L j ((L j).set pos v)) n A c ∧ FrS R A w A (w.setCell ⟨g, pos, none⟩ v) := by
  have hgA : (A j).map (·.block) = some g := by rw [hA]; rfl
  have hRg : g ≠ R := fun e => h.aps j (by rw [hgA, e])
  refine ⟨⟨h.blk.grown (grown_setCell w ⟨g, pos, none⟩ v) (fun e => by injection e with e; exact hRg e), fun i => ?_, by rw [upL_ne _ _ (fun e => hj4 e.symm)]; exact h.l4, h.ap, h.aps⟩, FrS.grown (grown_setCell _ _ _) fun b e => .inl (.inr ⟨j, by injection e with e; rw [hgA]; exact congrArg some e⟩)⟩
  by_cases e : i = j
  · subst e
    rw [upL_same]
    have hk := h.row i
    rw [hA] at hk ⊢
    exact hk.set pos v
  · rw [upL_ne L _ e]
    exact (h.row i).other (h.ap j i g (fun e' => e e'.symm) hgA) _
end
end Go.Proofs.Ytgeffkdobnipgaa
