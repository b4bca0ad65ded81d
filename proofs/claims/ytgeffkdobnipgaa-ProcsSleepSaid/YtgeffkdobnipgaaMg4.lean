/- Bundle 4 of the texts ProcWait, ProcRun, ProcActs, ProcCalls, ProcSleep. -/
import Derived.Test.YtgeffkdobnipgaaMg3
import Derived.Test.YtgeffkdobnipgaaMg2
/- procs: wait. -/
namespace Nac.Procs
theorem park_time (P : PSet) (p : Nat) (ticks item : Int) : park P p (-1) ticks item = (leave P p).setP p { (leave P p).proc p with st := 2, res := -1, left := ticks, item := item } := by
  unfold park; rw [if_neg (by simp)]
theorem park_res (P : PSet) (p r : Nat) (ticks item : Int) : park P p r ticks item = ((leave P p).setP p { (leave P p).proc p with st := 2, res := r, left := ticks, item := item }).setR r { (leave P p).rsc r with q := ((leave P p).rsc r).q ++ [p] } := by
  unfold park
  rw [if_pos (by omega)]
  rfl
end Nac.Procs
namespace Go.Proofs.Ytgeffkdobnipgaa
open Go.RowKit Nac Nac.Procs
theorem sOut : SInfo 37 3 := ⟨s3Out, _, Try.underlying37, rfl⟩
theorem zOut : ((Try.prog.info? 37).bind (·.zero)) = some (.agg (([.int .i64 0, .int .i64 0, .bool false] : List Value).toArray)) := by kernel_rfl
def ocs (u : Out) : List Value := [.int .i64 u.code, .int .i64 u.value, .bool u.waits]
theorem ocs_one (u : Out) : ∀ v ∈ ocs u, v.oneCell' = true := by intro v hv; simp [ocs] at hv; rcases hv with rfl | rfl | rfl <;> rfl
theorem build1_int (w : World) (x : Int) : (Instr.buildSlice 28 1 #[(0, .int .i64 x)]).run Try.prog w = .ok (.slice (some ⟨w.heap.size, 0, none⟩) 1 1) (w.alloc (.cells #[.int .i64 x] 3)) := by
  obtain ⟨ti, hi, hz, hs1, hb1⟩ := info_parts Try.infoIt
  refine run_buildSlice w _ _ 1 _ _ ti _ Try.underlying28 hi hz (by rw [hs1]; decide) (by rw [hs1]; decide) ?_
  rw [hs1]; kernel_rfl
theorem SetM.keepB {w w' : World} {S : Nat} {P : PSet} {A : Nat → Option Addr} {c : Nat → Nat} (h : SetM w S P A c) {b : Nat} (hg : w.grownBy w' (some b)) (hf : ¬ Foot S A b) : SetM w' S P A c := h.apart hg fun k e => by injection e with e; rw [← e]; exact hf
theorem FrS.nf {S : Nat} {A A' : Nat → Option Addr} {w w' : World} {b : Nat} (h : FrS S A w A' w') (hf : ¬ Foot S A b) (hb : b < w.heap.size) : ¬ Foot S A' b := fun h2 => by
  rcases h.foot b h2 with h3 | h3
  · exact hf h3
  · omega
/-- a call whose result lies in a variable of its own: the variable's block is new, what the set leaves is seen from ahead of it -/
theorem RetSet.of {w w1 w' : World} {S b : Nat} {A A' : Nat → Option Addr} {c' : Nat → Nat} {P' : PSet} {v : Value} {w2 : World} (h1 : w.grownBy w1 none) (hb : w.heap.size ≤ b) (hf : FrS S A w1 A' w2) (hg : w2.grownBy w' (some b)) (hm : SetM w' S P' A' c') : RetSet w S A v P' (.returned v) w' :=
  ⟨rfl, A', c', hm, ⟨by rw [hg.os, hf.os, h1.os], by rw [hg.tape, hf.tape, h1.tape], by rw [hg.output, hf.output, h1.output], Nat.le_trans h1.size (Nat.le_trans hf.size hg.size), fun k hk hnf => by
    rw [hg.block k (Nat.lt_of_lt_of_le hk (Nat.le_trans h1.size hf.size)) (fun e => by injection e with e; omega), hf.block k (Nat.lt_of_lt_of_le hk h1.size) hnf, h1.block k hk (by simp)], fun k hk => by
    rcases hf.foot k hk with h3 | h3
    · exact .inl h3
    · exact .inr (Nat.le_trans h1.size h3), hf.p0, hf.p1⟩⟩
def KnowC (w0 : World) (row : Option Nat) (b k : Nat) (v : Value) : Prop := ∀ w', w0.grownBy w' row → w'.cell? ⟨b, k, none⟩ = some v
theorem knowC {w0 : World} {row : Option Nat} {b k : Nat} {v : Value} (h : w0.cell? ⟨b, k, none⟩ = some v) (hne : some b ≠ row) : Hid (KnowC w0 row b k v) := Lib.hid fun w' hg => hg.cell h hne
theorem wait_res (w : World) (S : Nat) (P : PSet) (A : Nat → Option Addr) (c : Nat → Nat) (h : SetM w S P A c) (hw : Wf P 999) (p r : Nat) (hp : p < P.ps.length) (hr : r < P.rs.length) (ticks item : Int) :
    Calls Try.prog 32 #[.pointer (some ⟨S, 0, none⟩), .int .i64 (p : Int), .int .i64 (r : Int), .int .i64 ticks, .int .i64 item] w (RetSet w S A (.agg #[.int .i64 0, .int .i64 0, .bool true]) (park P p r ticks item)) := by
  have HPK := Lib.hid (park_res P p r ticks item)
  have H := Lib.hid h
  have HW := Lib.hid hw
  have HP := Lib.hid hp
  have HR := Lib.hid hr
  clear h hw hp hr
  go_enter Try.func32, Try.ntmps32
  go_wp2_with ((with_reducible show wpList _ _ _ (Oper.mk _ (Op.alloc 37) _ _ _ _ :: _) _ _); refine wpList_allocS _ zOut rfl rfl ?_)
  intro w1 hbk hg1 hs1
  obtain ⟨b, hb⟩ : ∃ b, b = w.heap.size := ⟨_, rfl⟩
  rw [← hb] at hbk ⊢
  have HNF : Hid (¬ Foot S A b) := Lib.hid (H.out.notFoot (by rw [hb]; exact Nat.le_refl _))
  have HBL : Hid (b < w1.heap.size) := Lib.hid (by omega)
  have HB1 := Lib.hid hbk
  have HG1 := Lib.hid hg1
  have HBE : Hid (w.heap.size ≤ b) := Lib.hid (by omega)
  have H1 : Hid (SetM w1 S P A c) := Lib.hid (H.out.apart hg1 fun k e => by cases e)
  clear hbk hg1 hs1 hb H
  go_wp2_with fail
  refine (leave_calls _ S P A c H1.out ⟨HW.out.n, HW.out.m, by have := HW.out.rd; omega, fun r => by have := HW.out.q r; omega, HW.out.res⟩ p HP.out).mono ?_
  rintro e w2 ⟨rfl, A1, c1, h2, hf2⟩
  have HF2 := Lib.hid hf2
  have BX2 := Lib.hid (hf2.blk HB1.out HNF.out)
  have hp2 : p < (leave P p).ps.length := by rw [leave_n]; exact HP.out
  have hr2 : r < (leave P p).rs.length := by rw [leave_m]; exact HR.out
  obtain ⟨g, hA, _⟩ := h2.pcell hp2
  obtain ⟨g1, hA1, _⟩ := h2.rcell hr2
  obtain ⟨n, hn⟩ : ∃ n, n = (leave P p).ps.length := ⟨_, rfl⟩
  have c0 := h2.head0 hA hn
  have HP2 := Lib.hid hp2
  have HR2 := Lib.hid hr2
  have hpn : p < n := by rw [hn]; exact hp2
  have hn8 : n ≤ 1000 := by rw [hn, leave_n]; exact HW.out.n
  have H2 := Lib.hid h2
  have HA := Lib.hid hA
  have HA1 := Lib.hid hA1
  have HN := Lib.hid hn
  have HBX1 := HB1
  clear h2 hf2 hA hA1 hn hp2 hr2 HB1 H1 BX2
  go_wp2_with ((with_reducible show wpList _ _ _ (Oper.mk _ (Op.store _ _ _) _ _ _ _ :: _) _ _); refine wpList_storeP rfl 3 _ _ rfl H2 HF2 1 (.int .i64 2) (by first | exact HP2.out | (rw [ps_setP]; exact HP2.out)) HA (by decide) { (leave P p).proc p with st := 2 } (rfl) rfl rfl s1Int rfl ?_)
  intro w3 H3 HF3
  go_wp2_with ((with_reducible show wpList _ _ _ (Oper.mk _ (Op.store _ _ _) _ _ _ _ :: _) _ _); refine wpList_storeP rfl 3 _ _ rfl H3 HF3 5 (.int .i64 (r : Int)) (by first | exact HP2.out | (rw [ps_setP]; exact HP2.out)) HA (by decide) { (leave P p).proc p with st := 2, res := r } (by rw [proc_setP HP2.out]; rfl) rfl rfl s1Int rfl ?_)
  rw [setP_setP]
  intro w4 H4 HF4
  go_wp2_with ((with_reducible show wpList _ _ _ (Oper.mk _ (Op.store _ _ _) _ _ _ _ :: _) _ _); refine wpList_storeP rfl 3 _ _ rfl H4 HF4 6 (.int .i64 ticks) (by first | exact HP2.out | (rw [ps_setP]; exact HP2.out)) HA (by decide) { (leave P p).proc p with st := 2, res := r, left := ticks } (by rw [proc_setP HP2.out]; rfl) rfl rfl s1Int rfl ?_)
  rw [setP_setP]
  intro w5 H5 HF5
  go_wp2_with ((with_reducible show wpList _ _ _ (Oper.mk _ (Op.store _ _ _) _ _ _ _ :: _) _ _); refine wpList_storeP rfl 2 _ _ rfl H5 HF5 7 (.int .i64 item) (by first | exact HP2.out | (rw [ps_setP]; exact HP2.out)) HA (by decide) { (leave P p).proc p with st := 2, res := r, left := ticks, item := item } (by rw [proc_setP HP2.out]; rfl) rfl rfl s1I64 rfl ?_)
  rw [setP_setP]
  intro w6 H6 HF6
  clear H2 HF2 H3 HF3 H4 HF4 H5 HF5 c0
  obtain ⟨P3, hP3⟩ : ∃ P3, P3 = (leave P p).setP p { (leave P p).proc p with st := 2, res := r, left := ticks, item := item } := ⟨_, rfl⟩
  rw [← hP3] at H6
  have HP3 := Lib.hid hP3
  have hr3 : r < P3.rs.length := by rw [hP3]; exact HR2.out
  have hqe : P3.rsc r = (leave P p).rsc r := by rw [hP3]; rfl
  obtain ⟨n1, hn1⟩ : ∃ n, n = P3.rs.length := ⟨_, rfl⟩
  obtain ⟨lq, hlq⟩ : ∃ n, n = (P3.rsc r).q.length := ⟨_, rfl⟩
  have hrn : r < n1 := by rw [hn1]; exact hr3
  have hn18 : n1 ≤ 1000 := by rw [hn1, hP3]; show (leave P p).rs.length ≤ 1000; rw [leave_m]; exact HW.out.m
  have hlq8 : lq ≤ 999 := by rw [hlq, hqe]; exact Nat.le_trans (leave_q p r) (HW.out.q r)
  have C1 : Hid (KnowC w6 ((A1 (3 + 2 * r)).map (·.block)) S 1 (.slice (some ⟨g1, 0, none⟩) n1 (c1 1))) := knowC (H6.out.head1 HA1.out hn1) (fun e => H6.out.aps _ e.symm)
  have CQ : Hid (KnowC w6 ((A1 (3 + 2 * r)).map (·.block)) g1 (r * 5 + 3) (.slice (A1 (3 + 2 * r)) lq (c1 (3 + 2 * r)))) := knowC (by rw [hlq]; exact H6.out.rget (f := 3) hr3 HA1.out rfl) (fun e => H6.out.ap 1 (3 + 2 * r) g1 (by omega) (by rw [HA1.out]; rfl) e.symm)
  have QR : Hid (Row w6 3 1 (A1 (3 + 2 * r)) (c1 (3 + 2 * r)) lq (nums (P3.rsc r).q)) := Lib.hid (by rw [hlq]; exact H6.out.qo r hr3)
  have HROW : Hid (∀ k, (A1 (3 + 2 * r)).map (·.block) = some k → k < w6.heap.size) := Lib.hid fun k hk => H6.out.lt _ k hk
  have HLQ := Lib.hid hlq
  have HR3 := Lib.hid hr3
  have HQE := Lib.hid hqe
  have hrne : ((r : Int) != -1) = true := by simp
  have hrne2 : ((r : Int) == -1) = false := by simp
  clear hn1 hlq hr3 hqe hP3
  go_wp2_with fail
  clear hrne hrne2
  refine region_relL 16 (AppR ((A1 (3 + 2 * r)).map (·.block)) 15) (fun ix9 => ([.is (.pointer (some ⟨S, 0, none⟩)), .is (.pointer (some ⟨S, 0, none⟩)), .is (.pointer (some ⟨S, 1, none⟩)), .is (.slice (some ⟨g1, 0, none⟩) n1 (c1 1)), .is (.int .i64 (r : Int)), .is (.pointer (some ⟨S, 0, none⟩)), .is (.pointer (some ⟨S, 0, none⟩)), .is (.pointer (some ⟨S, 1, none⟩)), .is (.slice (some ⟨g1, 0, none⟩) n1 (c1 1)), .is (.int .i64 (r : Int)), .is (.pointer (some ⟨g1, r * 5, none⟩)), .is (.pointer (some ⟨g1, r * 5 + 3, none⟩)), .is (.slice (A1 (3 + 2 * r)) lq (c1 (3 + 2 * r))), .is (.int .i64 (p : Int)), .pr (Built1 w6 (.int .i64 (p : Int))), .pr (Apped w6 3 (A1 (3 + 2 * r)) lq (nums (P3.rsc r).q) (.int .i64 (p : Int)))] : List LD).getD ix9 (.is undef)) [some 38, some 39, some 40, some 41, some 42, some 43, some 44, some 45, some 46, some 47, some 48, some 49, some 50, some 51, some 52, some 53] (AppJ w6 ((A1 (3 + 2 * r)).map (·.block)) 15) (fun ii hii => ?_) (AppR.refl _ 15) (by kernel_rfl) (by kernel_rfl) (by kernel_rfl) (by kernel_rfl) rfl (AppJ.start w6 _ 15) (fun ii hii => ?_) ?_
  · match ii, hii with
    | 0, _ => exact LD.keeps_is _ _ _
    | 1, _ => exact LD.keeps_is _ _ _
    | 2, _ => exact LD.keeps_is _ _ _
    | 3, _ => exact LD.keeps_is _ _ _
    | 4, _ => exact LD.keeps_is _ _ _
    | 5, _ => exact LD.keeps_is _ _ _
    | 6, _ => exact LD.keeps_is _ _ _
    | 7, _ => exact LD.keeps_is _ _ _
    | 8, _ => exact LD.keeps_is _ _ _
    | 9, _ => exact LD.keeps_is _ _ _
    | 10, _ => exact LD.keeps_is _ _ _
    | 11, _ => exact LD.keeps_is _ _ _
    | 12, _ => exact LD.keeps_is _ _ _
    | 13, _ => exact LD.keeps_is _ _ _
    | 14, _ => exact keep_built 14 _ HROW.out
    | 15, _ => exact keep_apped _ _ _ _ _
    | n + 16, h => exact absurd h (by show ¬ (n + 16 < 16); omega)
  · match ii, hii with
    | 0, _ => exact lstep_first (AppR.refl _ 15) rfl (lwant_none rfl) (AppJ.pure (by decide)) 0 (Or.inl rfl) (by kernel_rfl) (fun _ => rfl)
    | 1, _ => exact lstep_pure (AppR.refl _ 15) rfl (lwant_none rfl) (AppJ.pure (by decide)) (fun LL aa ww cc => ⟨.pointer (some ⟨S, 0, none⟩), by have e0 : aa.tmps.getD 38 undef = .pointer (some ⟨S, 0, none⟩) := cc.slot 0 38 (by kernel_rfl) rfl; simp only [execOp, Act.eval, e0]; go_simp, rfl⟩)
    | 2, _ => exact lstep_pure (AppR.refl _ 15) rfl (lwant_none rfl) (AppJ.pure (by decide)) (fun LL aa ww cc => ⟨.pointer (some ⟨S, 1, none⟩), by have e0 : aa.tmps.getD 39 undef = .pointer (some ⟨S, 0, none⟩) := cc.slot 1 39 (by kernel_rfl) rfl; simp only [execOp, Act.eval, e0]; go_simp, rfl⟩)
    | 3, _ => exact lstep_pure (AppR.refl _ 15) rfl (lwant_none rfl) (AppJ.pure (by decide)) (fun LL aa ww cc => ⟨.slice (some ⟨g1, 0, none⟩) n1 (c1 1), by have e0 : aa.tmps.getD 40 undef = .pointer (some ⟨S, 1, none⟩) := cc.slot 2 40 (by kernel_rfl) rfl; have q := C1.out _ cc.world.1; simp only [execOp, Act.eval, e0]; go_simp, rfl⟩)
    | 4, _ => exact lstep_first (AppR.refl _ 15) rfl (lwant_none rfl) (AppJ.pure (by decide)) 2 (Or.inl rfl) (by kernel_rfl) (fun _ => rfl)
    | 5, _ => exact lstep_first (AppR.refl _ 15) rfl (lwant_none rfl) (AppJ.pure (by decide)) 0 (Or.inl rfl) (by kernel_rfl) (fun _ => rfl)
    | 6, _ => exact lstep_pure (AppR.refl _ 15) rfl (lwant_none rfl) (AppJ.pure (by decide)) (fun LL aa ww cc => ⟨.pointer (some ⟨S, 0, none⟩), by have e0 : aa.tmps.getD 43 undef = .pointer (some ⟨S, 0, none⟩) := cc.slot 5 43 (by kernel_rfl) rfl; simp only [execOp, Act.eval, e0]; go_simp, rfl⟩)
    | 7, _ => exact lstep_pure (AppR.refl _ 15) rfl (lwant_none rfl) (AppJ.pure (by decide)) (fun LL aa ww cc => ⟨.pointer (some ⟨S, 1, none⟩), by have e0 : aa.tmps.getD 44 undef = .pointer (some ⟨S, 0, none⟩) := cc.slot 6 44 (by kernel_rfl) rfl; simp only [execOp, Act.eval, e0]; go_simp, rfl⟩)
    | 8, _ => exact lstep_pure (AppR.refl _ 15) rfl (lwant_none rfl) (AppJ.pure (by decide)) (fun LL aa ww cc => ⟨.slice (some ⟨g1, 0, none⟩) n1 (c1 1), by have e0 : aa.tmps.getD 45 undef = .pointer (some ⟨S, 1, none⟩) := cc.slot 7 45 (by kernel_rfl) rfl; have q := C1.out _ cc.world.1; simp only [execOp, Act.eval, e0]; go_simp, rfl⟩)
    | 9, _ => exact lstep_first (AppR.refl _ 15) rfl (lwant_none rfl) (AppJ.pure (by decide)) 2 (Or.inl rfl) (by kernel_rfl) (fun _ => rfl)
    | 10, _ => exact lstep_pure (AppR.refl _ 15) rfl (lwant_none rfl) (AppJ.pure (by decide)) (fun LL aa ww cc => ⟨.pointer (some ⟨g1, r * 5, none⟩), by have e0 : aa.tmps.getD 46 undef = .slice (some ⟨g1, 0, none⟩) n1 (c1 1) := cc.slot 8 46 (by kernel_rfl) rfl; have e1 : aa.tmps.getD 47 undef = .int .i64 (r : Int) := cc.slot 9 47 (by kernel_rfl) rfl; simp only [execOp, Act.eval, e0, e1]; go_simp, rfl⟩)
    | 11, _ => exact lstep_pure (AppR.refl _ 15) rfl (lwant_none rfl) (AppJ.pure (by decide)) (fun LL aa ww cc => ⟨.pointer (some ⟨g1, r * 5 + 3, none⟩), by have e0 : aa.tmps.getD 48 undef = .pointer (some ⟨g1, r * 5, none⟩) := cc.slot 10 48 (by kernel_rfl) rfl; simp only [execOp, Act.eval, e0]; go_simp, rfl⟩)
    | 12, _ => exact lstep_pure (AppR.refl _ 15) rfl (lwant_none rfl) (AppJ.pure (by decide)) (fun LL aa ww cc => ⟨.slice (A1 (3 + 2 * r)) lq (c1 (3 + 2 * r)), by have e0 : aa.tmps.getD 49 undef = .pointer (some ⟨g1, r * 5 + 3, none⟩) := cc.slot 11 49 (by kernel_rfl) rfl; have q := CQ.out _ cc.world.1; simp only [execOp, Act.eval, e0]; go_simp, rfl⟩)
    | 13, _ => exact lstep_first (AppR.refl _ 15) rfl (lwant_none rfl) (AppJ.pure (by decide)) 1 (Or.inl rfl) (by kernel_rfl) (fun _ => rfl)
    | 14, _ => exact lstep_build1 (by decide) rfl (lwant_none rfl) 51 rfl (.int .i64 (p : Int)) (fun w => build1_int w _) (fun LL aa ww cc => cc.slot 13 51 (by kernel_rfl) rfl) rfl
    | 15, _ => exact lstep_app1 Try.underlying28 Try.infoIt rfl (by decide) rfl (lwant_none rfl) 50 52 rfl (A1 (3 + 2 * r)) (c1 (3 + 2 * r)) lq (nums (P3.rsc r).q) (.int .i64 (p : Int)) rfl QR.out rfl (by omega) (fun LL aa ww cc => cc.slot 12 50 (by kernel_rfl) rfl) (fun LL aa ww cc => cc.slot 14 52 (by kernel_rfl) rfl) rfl
    | n + 16, h => exact absurd h (by show ¬ (n + 16 < 16); omega)
  · intro L9 VV w5 hall hlen hJ5 hok
    match VV, hlen with
    | [v0, v1, v2, v3, v4, v5, v6, v7, v8, v9, v10, v11, v12, v13, v14, v15], _ =>
      obtain rfl : v0 = .pointer (some ⟨S, 0, none⟩) := hok 0 38 rfl
      obtain rfl : v1 = .pointer (some ⟨S, 0, none⟩) := hok 1 39 rfl
      obtain rfl : v2 = .pointer (some ⟨S, 1, none⟩) := hok 2 40 rfl
      obtain rfl : v3 = .slice (some ⟨g1, 0, none⟩) n1 (c1 1) := hok 3 41 rfl
      obtain rfl : v4 = .int .i64 (r : Int) := hok 4 42 rfl
      obtain rfl : v5 = .pointer (some ⟨S, 0, none⟩) := hok 5 43 rfl
      obtain rfl : v6 = .pointer (some ⟨S, 0, none⟩) := hok 6 44 rfl
      obtain rfl : v7 = .pointer (some ⟨S, 1, none⟩) := hok 7 45 rfl
      obtain rfl : v8 = .slice (some ⟨g1, 0, none⟩) n1 (c1 1) := hok 8 46 rfl
      obtain rfl : v9 = .int .i64 (r : Int) := hok 9 47 rfl
      obtain rfl : v10 = .pointer (some ⟨g1, r * 5, none⟩) := hok 10 48 rfl
      obtain rfl : v11 = .pointer (some ⟨g1, r * 5 + 3, none⟩) := hok 11 49 rfl
      obtain rfl : v12 = .slice (A1 (3 + 2 * r)) lq (c1 (3 + 2 * r)) := hok 12 50 rfl
      obtain rfl : v13 = .int .i64 (p : Int) := hok 13 51 rfl
      have p14 := hok 14 52 rfl
      have p15 := hok 15 53 rfl
      have p15' : Apped w6 3 (A1 (3 + 2 * r)) lq (nums (P3.rsc r).q) (.int .i64 (p : Int)) v15 w5 := p15
      obtain ⟨A2, c2, rfl, hrow, hnb⟩ := p15'
      have hgr := hJ5.1
      have HROW2 : Hid (Row w5 3 1 A2 c2 ((P3.rsc r).q ++ [p]).length (nums ((P3.rsc r).q ++ [p]))) := Lib.hid (by
        rw [show ((P3.rsc r).q ++ [p]).length = lq + 1 by simp [HLQ.out], show nums ((P3.rsc r).q ++ [p]) = nums (P3.rsc r).q ++ [.int .i64 (p : Int)] by simp [nums]]
        exact hrow)
      have HGR : Hid (w6.grownBy w5 ((A1 (3 + 2 * r)).map (·.block))) := Lib.hid hgr
      have HNB : Hid (NewB w6 (A1 (3 + 2 * r)) A2) := Lib.hid hnb
      have HL1 : Hid (lq + 1 = ((P3.rsc r).q ++ [p]).length) := Lib.hid (by simp [HLQ.out])
      clear p14 p15 hrow hnb hgr hJ5 hok hall C1 CQ QR HROW HLQ
      simp only [List.zip_cons_cons, List.zip_nil_right, putsL]
      go_simp
      go_wp2_with ((with_reducible show wpList _ _ _ (Oper.mk _ (Op.store _ _ _) _ _ _ _ :: _) _ _); refine wpList_storeQ rfl 28 _ _ rfl H6 HF6 HR3.out HA1 HL1.out HROW2 HGR HNB rfl rfl s1Ints ?_)
      intro w7 H7 HF7
      have BX7 : Hid (Blk w7 b [.int .i64 0, .int .i64 0, .bool false]) := Lib.hid (HF7.out.blk HBX1.out HNF.out)
      clear H6 HF6 HROW2 HGR HNB HL1
      go_wp2_with ((with_reducible show wpList _ _ _ (Oper.mk _ (Op.store 37 _ _) _ _ _ _ :: _) _ _); refine wpList_storeS sOut rfl _ _ rfl b [.int .i64 0, .int .i64 0, .bool false] (ocs ⟨0, 0, true⟩) rfl rfl BX7.out rfl rfl (ocs_one _) ?_)
      intro w8 hb8 hg8
      have l8 := Lib.hid (run_loadS sOut b _ hb8 rfl)
      have HRS : Hid (RetSet w S A (.agg (ocs ⟨0, 0, true⟩).toArray) (park P p r ticks item) (.returned (.agg (ocs ⟨0, 0, true⟩).toArray)) w8) := Lib.hid (by
        refine RetSet.of HG1.out HBE.out HF7.out hg8 (c' := upC c1 (3 + 2 * r) c2) ?_
        rw [HPK.out, ← HP3.out, ← HQE.out]
        exact H7.out.keepB hg8 (HF7.out.nf HNF.out HBL.out))
      clear hb8 hg8
      go_wp2
      exact bodyPost_ret (v := .agg (ocs ⟨0, 0, true⟩).toArray) (by simp [results, Try.results32, asAddr, Sem.run_bind, Sem.run_pure, l8.out]) rfl HRS.out
theorem wait_time (w : World) (S : Nat) (P : PSet) (A : Nat → Option Addr) (c : Nat → Nat) (h : SetM w S P A c) (hw : Wf P 999) (p : Nat) (hp : p < P.ps.length) (ticks item : Int) :
    Calls Try.prog 32 #[.pointer (some ⟨S, 0, none⟩), .int .i64 (p : Int), .int .i64 (-1), .int .i64 ticks, .int .i64 item] w (RetSet w S A (.agg #[.int .i64 0, .int .i64 0, .bool true]) (park P p (-1) ticks item)) := by
  have HPK := Lib.hid (park_time P p ticks item)
  have H := Lib.hid h
  have HW := Lib.hid hw
  have HP := Lib.hid hp
  clear h hw hp
  go_enter Try.func32, Try.ntmps32
  go_wp2_with ((with_reducible show wpList _ _ _ (Oper.mk _ (Op.alloc 37) _ _ _ _ :: _) _ _); refine wpList_allocS _ zOut rfl rfl ?_)
  intro w1 hbk hg1 hs1
  obtain ⟨b, hb⟩ : ∃ b, b = w.heap.size := ⟨_, rfl⟩
  rw [← hb] at hbk ⊢
  have HNF : Hid (¬ Foot S A b) := Lib.hid (H.out.notFoot (by rw [hb]; exact Nat.le_refl _))
  have HBL : Hid (b < w1.heap.size) := Lib.hid (by omega)
  have HB1 := Lib.hid hbk
  have HG1 := Lib.hid hg1
  have HBE : Hid (w.heap.size ≤ b) := Lib.hid (by omega)
  have H1 : Hid (SetM w1 S P A c) := Lib.hid (H.out.apart hg1 fun k e => by cases e)
  clear hbk hg1 hs1 hb H
  go_wp2_with fail
  refine (leave_calls _ S P A c H1.out ⟨HW.out.n, HW.out.m, by have := HW.out.rd; omega, fun r => by have := HW.out.q r; omega, HW.out.res⟩ p HP.out).mono ?_
  rintro e w2 ⟨rfl, A1, c1, h2, hf2⟩
  have HF2 := Lib.hid hf2
  have BX2 := Lib.hid (hf2.blk HB1.out HNF.out)
  have hp2 : p < (leave P p).ps.length := by rw [leave_n]; exact HP.out
  obtain ⟨g, hA, _⟩ := h2.pcell hp2
  obtain ⟨n, hn⟩ : ∃ n, n = (leave P p).ps.length := ⟨_, rfl⟩
  have c0 := h2.head0 hA hn
  have HP2 := Lib.hid hp2
  have hpn : p < n := by rw [hn]; exact hp2
  have hn8 : n ≤ 1000 := by rw [hn, leave_n]; exact HW.out.n
  have H2 := Lib.hid h2
  have HA := Lib.hid hA
  have HN := Lib.hid hn
  have HBX1 := HB1
  clear h2 hf2 hA hn hp2 HB1 H1 BX2
  go_wp2_with ((with_reducible show wpList _ _ _ (Oper.mk _ (Op.store _ _ _) _ _ _ _ :: _) _ _); refine wpList_storeP rfl 3 _ _ rfl H2 HF2 1 (.int .i64 2) (by first | exact HP2.out | (rw [ps_setP]; exact HP2.out)) HA (by decide) { (leave P p).proc p with st := 2 } (rfl) rfl rfl s1Int rfl ?_)
  intro w3 H3 HF3
  go_wp2_with ((with_reducible show wpList _ _ _ (Oper.mk _ (Op.store _ _ _) _ _ _ _ :: _) _ _); refine wpList_storeP rfl 3 _ _ rfl H3 HF3 5 (.int .i64 (-1)) (by first | exact HP2.out | (rw [ps_setP]; exact HP2.out)) HA (by decide) { (leave P p).proc p with st := 2, res := -1 } (by rw [proc_setP HP2.out]; rfl) rfl rfl s1Int rfl ?_)
  rw [setP_setP]
  intro w4 H4 HF4
  go_wp2_with ((with_reducible show wpList _ _ _ (Oper.mk _ (Op.store _ _ _) _ _ _ _ :: _) _ _); refine wpList_storeP rfl 3 _ _ rfl H4 HF4 6 (.int .i64 ticks) (by first | exact HP2.out | (rw [ps_setP]; exact HP2.out)) HA (by decide) { (leave P p).proc p with st := 2, res := -1, left := ticks } (by rw [proc_setP HP2.out]; rfl) rfl rfl s1Int rfl ?_)
  rw [setP_setP]
  intro w5 H5 HF5
  go_wp2_with ((with_reducible show wpList _ _ _ (Oper.mk _ (Op.store _ _ _) _ _ _ _ :: _) _ _); refine wpList_storeP rfl 2 _ _ rfl H5 HF5 7 (.int .i64 item) (by first | exact HP2.out | (rw [ps_setP]; exact HP2.out)) HA (by decide) { (leave P p).proc p with st := 2, res := -1, left := ticks, item := item } (by rw [proc_setP HP2.out]; rfl) rfl rfl s1I64 rfl ?_)
  rw [setP_setP]
  intro w6 H6 HF6
  clear H2 HF2 H3 HF3 H4 HF4 H5 HF5 c0
  have BX7 : Hid (Blk w6 b [.int .i64 0, .int .i64 0, .bool false]) := Lib.hid (HF6.out.blk HBX1.out HNF.out)
  go_wp2_with ((with_reducible show wpList _ _ _ (Oper.mk _ (Op.store 37 _ _) _ _ _ _ :: _) _ _); refine wpList_storeS sOut rfl _ _ rfl b [.int .i64 0, .int .i64 0, .bool false] (ocs ⟨0, 0, true⟩) rfl rfl BX7.out rfl rfl (ocs_one _) ?_)
  intro w8 hb8 hg8
  have l8 := Lib.hid (run_loadS sOut b _ hb8 rfl)
  have HRS : Hid (RetSet w S A (.agg (ocs ⟨0, 0, true⟩).toArray) (park P p (-1) ticks item) (.returned (.agg (ocs ⟨0, 0, true⟩).toArray)) w8) := Lib.hid (by
    refine RetSet.of HG1.out HBE.out HF6.out hg8 (c' := c1) ?_
    rw [HPK.out]
    exact H6.out.keepB hg8 (HF6.out.nf HNF.out HBL.out))
  clear hb8 hg8
  go_wp2
  exact bodyPost_ret (v := .agg (ocs ⟨0, 0, true⟩).toArray) (by simp [results, Try.results32, asAddr, Sem.run_bind, Sem.run_pure, l8.out]) rfl HRS.out
end Go.Proofs.Ytgeffkdobnipgaa
/- procs: Running. -/
namespace Nac.Procs
theorem great_snoc (s : PSet) (l : List Nat) (p : Nat) : ∀ g, great s (l ++ [p]) g = max (great s l g) (s.proc p).pr := by
  induction l with
  | nil => intro g; rfl
  | cons a l ih => intro g; exact ih _
end Nac.Procs
namespace Nac
open Go Go.RowKit
section
variable {P : Program} {w : World} {ops : Array Oper} {rest : List Oper} {o : Oper} {a : Act} {Q : Exit → Act → World → Prop} {T : TypeId}
/-- a variable of one cell: boxed, new, stored -/
theorem wpList_box1 (hg : o.guard = none) (x : Operand) (hop : o.op = .box T x) (v : Value) (hx : a.eval x = v) (hc : v.cells = #[v])
    (h : ∀ w', Blk w' w.heap.size [v] → w.grownBy w' none → w'.heap.size = w.heap.size + 1 → wpList P ops Q rest (a.put o.dst (.pointer (some ⟨w.heap.size, 0, none⟩))) w') : wpList P ops Q (o :: rest) a w := by
  refine wpList_plain hg fun K hK => ?_
  unfold Oper.wp execOp
  simp only [hop, Sem.run_bind, Instr.box, newVar, newRow, run_newObj_alloc, Sem.run_pure, Result.andThen_ok, hx, hc]
  exact hK _ _ (h _ (Blk.new w [v] T) (World.grownBy_alloc w _ none) (by simp))
theorem wpList_alloc1 (v : Value) (hz : ((P.info? T).bind (·.zero)) = some v) (hc : v.cells = #[v]) (hg : o.guard = none) (hop : o.op = .alloc T)
    (h : ∀ w', Blk w' w.heap.size [v] → w.grownBy w' none → w'.heap.size = w.heap.size + 1 → wpList P ops Q rest (a.put o.dst (.pointer (some ⟨w.heap.size, 0, none⟩))) w') : wpList P ops Q (o :: rest) a w := by
  refine wpList_plain hg fun K hK => ?_
  have hz : (zeroValue T).run P w = .ok v w := by
    cases hi : P.info? T with
    | none => simp [hi] at hz
    | some i =>
      simp [hi] at hz
      simp [zeroValue, typeInfo, hi, hz]
  have hr : (Instr.alloc T true (.tuple #[])).run P w = .ok (.pointer (some ⟨w.heap.size, 0, none⟩)) (w.alloc (.cells #[v] T)) := by
    simp [Instr.alloc, hz, newVar, newRow, hc]
  unfold Oper.wp execOp
  simp only [hop, Sem.run_bind, hr, Result.andThen_ok]
  exact hK _ _ (h _ (Blk.new w [v] T) (World.grownBy_alloc w _ none) (by simp))
theorem wpList_storeB (hg : o.guard = none) (ty : TypeId) (x y : Operand) (hop : o.op = .store ty x y) (b k : Nat) (cs : List Value) (v : Value) (hx : a.eval x = .pointer (some ⟨b, k, none⟩)) (hy : a.eval y = v) (hb : Blk w b cs) (hk : k < cs.length)
    (hi : (P.info? ty).map (·.size) = some 1) (h1 : v.oneCell' = true) (h : ∀ w', Blk w' b (cs.set k v) → w.grownBy w' (some b) → wpList P ops Q rest (a.put o.dst undef) w') : wpList P ops Q (o :: rest) a w :=
  wpList_store1 hg ty x y hop b k v cs[k] hx hy (hb.cell (List.getElem?_eq_getElem hk)) (hb.free k) hi h1 fun w' hw => by
    rw [hw.out]
    exact h _ (hb.setCell k v) (grown_setCell _ _ _)
end
theorem below_drewN' {B : Nat} {a w : World} (h : Below B a w) (n : Nat) : Below B a (w.drewN n) := ⟨h.os, h.tape, h.output, h.size, h.block⟩
theorem grown_below {w w' : World} {row : Option Nat} {B : Nat} (h : w.grownBy w' row) (hB : B ≤ w.heap.size) (hr : ∀ k, row = some k → B ≤ k) : Below B w w' :=
  ⟨h.os, h.tape, h.output, h.size, fun k hk => h.block k (Nat.lt_of_lt_of_le hk hB) fun e => by have := hr k e.symm; omega⟩
end Nac
namespace Go.Proofs.Ytgeffkdobnipgaa
open Go.RowKit Nac Nac.Procs
def RetBd (w : World) (b : Bool) (e : Ending) (w' : World) : Prop := e = .returned (.bool b) ∧ ∃ d, w' = w.drewN d
def RetId (w : World) (z : Int) (e : Ending) (w' : World) : Prop := e = .returned (.int .i64 z) ∧ ∃ d, w' = w.drewN d
def RetIb (w : World) (z : Int) (e : Ending) (w' : World) : Prop := e = .returned (.int .i64 z) ∧ Below w.heap.size w w'
theorem run_pred (w : World) (S B1 B3 : Nat) (P : PSet) (A : Nat → Option Addr) (c : Nat → Nat) (h : SetM w S P A c) (h8 : P.ps.length ≤ 1000) (h1 : w.cell? ⟨B1, 0, none⟩ = some (.pointer (some ⟨S, 0, none⟩))) (gr : Int) (h3 : w.cell? ⟨B3, 0, none⟩ = some (.int .i64 gr)) (q : Nat) (hq : q < P.ps.length) :
    Calls Try.prog 27 #[.int .i64 (q : Int), .pointer (some ⟨B1, 0, none⟩), .pointer (some ⟨B3, 0, none⟩)] w (RetBd w ((P.proc q).pr == gr)) := by
  obtain ⟨g, hA, _⟩ := h.pcell hq
  obtain ⟨n, hn⟩ : ∃ n, n = P.ps.length := ⟨_, rfl⟩
  have c0 := h.head0 hA hn
  have c1 : w.cell? ⟨g, q * 8, none⟩ = some (.int .i64 (P.proc q).pr) := h.pget (f := 0) hq hA rfl
  obtain ⟨pq, hpq⟩ : ∃ x, x = (P.proc q).pr := ⟨_, rfl⟩
  rw [← hpq] at c1 ⊢
  rw [← hn] at hq h8
  clear h hA hn hpq
  go_enter Try.func27, Try.ntmps27
  go_wp2_with fail
  go_quiet (fail)
  go_wp2
  go_ret
  exact ⟨rfl, _, rfl⟩
theorem index_run (w : World) (S B1 B3 : Nat) (P : PSet) (AA : Nat → Option Addr) (cc : Nat → Nat) (HS : SetM w S P AA cc) (h8p : P.ps.length ≤ 1000) (h1 : w.cell? ⟨B1, 0, none⟩ = some (.pointer (some ⟨S, 0, none⟩))) (gr : Int) (h3 : w.cell? ⟨B3, 0, none⟩ = some (.int .i64 gr))
    (A : Option Addr) (c : Nat) (l : List Nat) (n : Nat) (hn : n = l.length) (hr : Row w 3 1 A c l.length (nums l)) (h8 : n ≤ 1000) (hin : ∀ q ∈ l, q < P.ps.length) :
    Calls Try.prog 26 #[.slice A n c, .func (.func 27) #[] #[.pointer (some ⟨B1, 0, none⟩), .pointer (some ⟨B3, 0, none⟩)]] w (RetId w (idxOf l (fun q => (P.proc q).pr == gr))) := by
  have HR := Lib.hid hr
  have HN := Lib.hid hn
  have H1 := Lib.hid h1
  have H3 := Lib.hid h3
  have HM := Lib.hid HS
  have HIN := Lib.hid hin
  have H8 := Lib.hid h8p
  clear hr hn h1 h3 HS hin h8p
  go_enter Try.func26, Try.ntmps26
  go_wp2
  go_loopw [5, 8] (fun _ i wr => ∃ k : Nat, k ≤ n ∧ i = .int .i64 k ∧ (∃ d, wr = w.drewN d) ∧ Hid (∀ j, j < k → ((P.proc (l.getD j 0)).pr == gr) = false)) (fun _ i _ => n - (intOf i).toNat)
  case atStart => exact ⟨0, Nat.zero_le _, rfl, ⟨0, rfl⟩, Lib.hid fun j hj => absurd hj (Nat.not_lt_zero j)⟩
  case round =>
    obtain ⟨k, hk, rfl, ⟨d, rfl⟩, HK⟩ := hrel
    by_cases hlt : k < n
    · have hkl : k < (nums l).length := by simp [nums, ← HN.out, hlt]
      obtain ⟨g, hA, hg, hc, hf⟩ := HR.out.at hkl
      have hkl2 : k < l.length := by rw [← HN.out]; exact hlt
      have hc' : (w.drewN d).cell? ⟨g, k, none⟩ = some (.int .i64 (l.getD k 0 : Nat)) := by
        show w.cell? ⟨g, k, none⟩ = _
        rw [hc]; simp [nums, List.getD, hkl2]
      subst hA
      obtain ⟨x, hx⟩ : ∃ x, x = l.getD k 0 := ⟨_, rfl⟩
      have HXI : Hid (x < P.ps.length) := Lib.hid (HIN.out x (by rw [hx]; simp [List.getD, hkl2]))
      rw [← hx] at hc'
      have HX := Lib.hid hx
      clear hx hc hf hg hkl hkl2
      go_wp2_with fail
      refine (run_pred (w.drewN d) S B1 B3 P AA cc (HM.out.drewN d) H8.out H1.out gr H3.out x HXI.out).mono ?_
      rintro e w1 ⟨rfl, d2, rfl⟩
      cases hb : ((P.proc x).pr == gr) with
      | true =>
        have HI : Hid (idxOf l (fun q => (P.proc q).pr == gr) = k) := Lib.hid (by
          have hk' : k < l.length := by rw [← HN.out]; exact hlt
          have e2 : l.findIdx? (fun q => (P.proc q).pr == gr) = some k := by
            rw [List.findIdx?_eq_some_iff_getElem]
            refine ⟨hk', ?_, fun j hj => ?_⟩
            · have : l.getD k 0 = l[k] := by simp [List.getD, hk']
              rw [← this, ← HX.out]; exact hb
            · have hjl : j < l.length := by omega
              have := HK.out j hj
              rw [show l.getD j 0 = l[j] by simp [List.getD, hjl]] at this
              simp [this]
          unfold idxOf
          rw [e2])
        clear hb
        go_wp2
        go_ret
        exact ⟨by rw [HI.out]; rfl, _, rfl⟩
      | false =>
        have HK' : Hid (∀ j, j < k + 1 → ((P.proc (l.getD j 0)).pr == gr) = false) := Lib.hid fun j hj => by
          rcases Nat.lt_or_ge j k with h | h
          · exact HK.out j h
          · have : j = k := by omega
            subst this
            rw [← HX.out]; exact hb
        clear hb HK
        go_wp2
        go_roundw
        case rel => exact ⟨k + 1, by omega, by go_num, ⟨_, rfl⟩, HK'⟩
        case measure => simp [intOf]; omega
    · have hkn : k = n := by omega
      have HI : Hid (idxOf l (fun q => (P.proc q).pr == gr) = -1) := Lib.hid (by
        have e2 : l.findIdx? (fun q => (P.proc q).pr == gr) = none := by
          rw [List.findIdx?_eq_none_iff]
          intro y hy
          obtain ⟨j, hj, rfl⟩ := List.getElem_of_mem hy
          have := HK.out j (by rw [hkn, HN.out]; exact hj)
          rw [show l.getD j 0 = l[j] by simp [List.getD, hj]] at this
          simpa using this
        unfold idxOf
        rw [e2])
      subst hkn
      clear HK
      go_wp2
      go_ret
      exact ⟨by rw [HI.out]; rfl, _, rfl⟩
theorem find_idx (f : Nat → Bool) : ∀ l : List Nat, (match l.find? f with | none => (-1 : Int) | some p => (p : Int)) = match l.findIdx? f with | none => -1 | some k => ((l.getD k 0 : Nat) : Int)
  | [] => rfl
  | a :: l => by
    rw [List.find?_cons, List.findIdx?_cons]
    cases h : f a with
    | true => rfl
    | false =>
      have := find_idx f l
      simp only [Bool.false_eq_true, if_false]
      rw [this]
      cases l.findIdx? f <;> rfl
theorem idx_runI (P : PSet) : (idxOf P.ready (fun q => (P.proc q).pr == great P P.ready (-1)) = -1 ∧ runI P = -1) ∨ ∃ k, k < P.ready.length ∧ idxOf P.ready (fun q => (P.proc q).pr == great P P.ready (-1)) = (k : Nat) ∧ runI P = (P.ready.getD k 0 : Nat) := by
  have e := find_idx (fun q => (P.proc q).pr == great P P.ready (-1)) P.ready
  have e2 : runI P = match P.ready.find? (fun q => (P.proc q).pr == great P P.ready (-1)) with | none => (-1 : Int) | some p => (p : Int) := rfl
  rw [e2, e]
  unfold idxOf
  cases hf : P.ready.findIdx? (fun q => (P.proc q).pr == great P P.ready (-1)) with
  | none => exact .inl ⟨rfl, rfl⟩
  | some k =>
    obtain ⟨hk, _⟩ := List.findIdx?_eq_some_iff_getElem.1 hf
    exact .inr ⟨k, hk, rfl, rfl⟩
theorem zInt : ((Try.prog.info? 3).bind (·.zero)) = some (.int .i64 0) := by kernel_rfl
structure RunRel (w : World) (S b1 b3 : Nat) (P : PSet) (k : Nat) (wr : World) : Prop where
  below : Below w.heap.size w wr
  x1 : Blk wr b1 [.pointer (some ⟨S, 0, none⟩)]
  x3 : Blk wr b3 [.int .i64 (great P (P.ready.take k) (-1))]
set_option maxHeartbeats 1000000 in
theorem Running_calls (w : World) (S : Nat) (P : PSet) (A : Nat → Option Addr) (c : Nat → Nat) (h : SetM w S P A c) (h8 : P.ps.length ≤ 1000) (hr8 : P.ready.length ≤ 1000) (hin : ∀ q ∈ P.ready, q < P.ps.length) :
    Calls Try.prog 12 #[.pointer (some ⟨S, 0, none⟩)] w (RetIb w (runI P)) := by
  have HS := Lib.hid h
  have H8 := Lib.hid h8
  have HIN := Lib.hid hin
  obtain ⟨nr, hnr⟩ : ∃ n, n = P.ready.length := ⟨_, rfl⟩
  obtain ⟨b1, hb1⟩ : ∃ b, b = w.heap.size := ⟨_, rfl⟩
  have HNR := Lib.hid hnr
  rw [← hnr] at hr8
  clear h h8 hin hnr
  go_enter Try.func12, Try.ntmps12
  go_wp2_with ((with_reducible show wpList _ _ _ (Oper.mk _ (Op.box _ _) _ _ _ _ :: _) _ _); refine wpList_box1 rfl _ rfl (.pointer (some ⟨S, 0, none⟩)) rfl rfl ?_)
  intro w1 hx1 hg1 hs1
  rw [← hb1] at hx1 hs1 ⊢
  have HX1 := Lib.hid hx1
  have HB1 : Hid (Below w.heap.size w w1) := Lib.hid (grown_below hg1 (Nat.le_refl _) fun k e => by cases e)
  have HS1 := Lib.hid hs1
  have HBE := Lib.hid hb1
  clear hx1 hg1 hs1 hb1
  go_wp2_with ((with_reducible show wpList _ _ _ (Oper.mk _ (Op.alloc _) _ _ _ _ :: _) _ _); refine wpList_alloc1 (.int .i64 0) zInt rfl rfl rfl ?_)
  intro w2 hx3 hg2 hs2
  obtain ⟨b3, hb3⟩ : ∃ b, b = w1.heap.size := ⟨_, rfl⟩
  rw [← hb3] at hx3 hs2 ⊢
  have HX3 := Lib.hid hx3
  have HX2 : Hid (Blk w2 b1 [.pointer (some ⟨S, 0, none⟩)]) := Lib.hid (HX1.out.grown hg2 (by simp))
  have HB2 : Hid (Below w.heap.size w w2) := Lib.hid (HB1.out.trans (grown_below hg2 HB1.out.size fun k e => by cases e))
  have HS2 := Lib.hid hs2
  have HB3E : Hid (b3 = b1 + 1) := Lib.hid (by rw [hb3, HS1.out])
  clear hx3 hg2 hs2 hb3 HX1 HB1 HS1
  go_wp2_with ((with_reducible show wpList _ _ _ (Oper.mk _ (Op.store _ _ _) _ _ _ _ :: _) _ _); refine wpList_storeB rfl 3 _ _ rfl b3 0 [.int .i64 0] (.int .i64 (-1)) rfl rfl HX3.out (Nat.lt_succ_self 0) s1Int rfl ?_)
  intro w3 hx3 hg3
  have HX3' : Hid (Blk w3 b3 [.int .i64 (-1)]) := Lib.hid hx3
  have HX2' : Hid (Blk w3 b1 [.pointer (some ⟨S, 0, none⟩)]) := Lib.hid (HX2.out.grown hg3 (by intro e; injection e with e; have := HB3E.out; omega))
  have HB3 : Hid (Below w.heap.size w w3) := Lib.hid (HB2.out.trans (grown_below hg3 HB2.out.size fun k e => by injection e with e; have := HB3E.out; have := HBE.out; omega))
  have HRR0 : Hid (RunRel w S b1 b3 P 0 w3) := Lib.hid ⟨HB3.out, HX2'.out, HX3'.out⟩
  have c1 : w3.cell? ⟨b1, 0, none⟩ = some (.pointer (some ⟨S, 0, none⟩)) := HX2'.out.cell rfl
  have c2 : w3.cell? ⟨S, 2, none⟩ = some (.slice (A 2) nr (c 2)) := by rw [HNR.out]; exact (HS.out.below HB3.out).head
  clear hx3 hg3 HX3 HX2 HB2 HX3' HX2' HB3 HS2
  go_wp2
  clear c1 c2
  go_loopw [5, 12] (fun _ i wr => ∃ k : Nat, k ≤ nr ∧ i = .int .i64 k ∧ RunRel w S b1 b3 P k wr) (fun _ i _ => nr - (intOf i).toNat)
  case atStart => exact ⟨0, Nat.zero_le _, rfl, HRR0.out⟩
  case round =>
    obtain ⟨k, hk, rfl, hrr⟩ := hrel
    have HRR := Lib.hid hrr
    clear hrr HRR0
    by_cases hlt : k < nr
    · have HM : Hid (SetM wr S P A c) := Lib.hid (HS.out.below HRR.out.below)
      have hkl2 : k < P.ready.length := by rw [← HNR.out]; exact hlt
      have hkl : k < (nums P.ready).length := by rw [nums_len]; exact hkl2
      obtain ⟨g2, hA2, _, hc2, _⟩ := HM.out.rd.at hkl
      obtain ⟨q, hq⟩ : ∃ x, x = P.ready.getD k 0 := ⟨_, rfl⟩
      have hqk : P.ready[k] = q := by rw [hq]; simp [List.getD, hkl2]
      have c3 : wr.cell? ⟨g2, k, none⟩ = some (.int .i64 (q : Int)) := by rw [hc2]; simp [nums, hqk]
      have hqn : q < P.ps.length := HIN.out q (by rw [← hqk]; exact List.getElem_mem _)
      obtain ⟨g, hA, _⟩ := HM.out.pcell hqn
      obtain ⟨n, hn⟩ : ∃ n, n = P.ps.length := ⟨_, rfl⟩
      obtain ⟨gr, hgr⟩ : ∃ x, x = great P (P.ready.take k) (-1) := ⟨_, rfl⟩
      obtain ⟨pq, hpq⟩ : ∃ x, x = (P.proc q).pr := ⟨_, rfl⟩
      have K0 : Hid (∀ w', Below wr.drew.heap.size wr.drew w' → w'.cell? ⟨S, 0, none⟩ = some (.slice (some ⟨g, 0, none⟩) n (c 0))) := Lib.hid fun w' hb' => (HM.out.drew.below hb').head0 hA hn
      have K1 : Hid (∀ w', Below wr.drew.heap.size wr.drew w' → w'.cell? ⟨b1, 0, none⟩ = some (.pointer (some ⟨S, 0, none⟩))) := Lib.hid fun w' hb' => (HRR.out.x1.drew.below hb' HRR.out.x1.lt).cell rfl
      have K3 : Hid (∀ w', Below wr.drew.heap.size wr.drew w' → w'.cell? ⟨b3, 0, none⟩ = some (.int .i64 gr)) := Lib.hid fun w' hb' => by rw [hgr]; exact (HRR.out.x3.drew.below hb' HRR.out.x3.lt).cell rfl
      have KQ : Hid (∀ w', Below wr.drew.heap.size wr.drew w' → w'.cell? ⟨g, q * 8, none⟩ = some (.int .i64 pq)) := Lib.hid fun w' hb' => by rw [hpq]; exact (HM.out.drew.below hb').pget (f := 0) hqn hA rfl
      have HGS : Hid (great P (P.ready.take (k + 1)) (-1) = max gr pq) := Lib.hid (by
        rw [List.take_succ_eq_append_getElem hkl2, great_snoc, hqk, ← hgr, ← hpq])
      have hqn' : q < n := by rw [hn]; exact hqn
      have hn8 : n ≤ 1000 := by rw [hn]; exact H8.out
      have HA2 := Lib.hid hA2
      have HGR := Lib.hid hgr
      rw [hA2]
      clear hA2 hkl2 hkl hc2 hq hqk hqn hA hn hgr hpq
      go_wp2_with fail
      clear c3
      refine region_tails 10 (fun ix9 => ([.is (.int .i64 gr), .is (.pointer (some ⟨S, 0, none⟩)), .is (.pointer (some ⟨S, 0, none⟩)), .is (.pointer (some ⟨S, 0, none⟩)), .is (.slice (some ⟨g, 0, none⟩) n (c 0)), .is (.int .i64 (q : Int)), .is (.pointer (some ⟨g, q * 8, none⟩)), .is (.pointer (some ⟨g, q * 8, none⟩)), .is (.int .i64 pq), .is (.int .i64 (max gr pq))] : List VD).getD ix9 (.is undef)) [some 16, some 17, some 18, some 19, some 20, some 21, some 22, some 23, some 24, some 25] (by kernel_rfl) (by kernel_rfl) (by kernel_rfl) (by kernel_rfl) rfl (fun ii hii => ?_) ?_
      · match ii, hii with
        | 0, _ => exact mstep_pure rfl (mwant_none rfl) (fun aa ww cc => ⟨.int .i64 gr, by have e0 : aa.tmps.getD 3 undef = .pointer (some ⟨b3, 0, none⟩) := (cc.orig 3 (by kernel_rfl)).trans rfl; have q3 := K3.out _ cc.below; simp only [execOp, Act.eval, e0]; go_simp, rfl⟩)
        | 1, _ => exact mstep_pure rfl (mwant_none rfl) (fun aa ww cc => ⟨.pointer (some ⟨S, 0, none⟩), by have e0 : aa.tmps.getD 1 undef = .pointer (some ⟨b1, 0, none⟩) := (cc.orig 1 (by kernel_rfl)).trans rfl; have q1 := K1.out _ cc.below; simp only [execOp, Act.eval, e0]; go_simp, rfl⟩)
        | 2, _ => exact mstep_pure rfl (mwant_none rfl) (fun aa ww cc => ⟨.pointer (some ⟨S, 0, none⟩), by have e0 : aa.tmps.getD 17 undef = .pointer (some ⟨S, 0, none⟩) := cc.slot 1 17 (by kernel_rfl) rfl; simp only [execOp, Act.eval, e0]; go_simp, rfl⟩)
        | 3, _ => exact mstep_pure rfl (mwant_none rfl) (fun aa ww cc => ⟨.pointer (some ⟨S, 0, none⟩), by have e0 : aa.tmps.getD 18 undef = .pointer (some ⟨S, 0, none⟩) := cc.slot 2 18 (by kernel_rfl) rfl; simp only [execOp, Act.eval, e0]; go_simp, rfl⟩)
        | 4, _ => exact mstep_pure rfl (mwant_none rfl) (fun aa ww cc => ⟨.slice (some ⟨g, 0, none⟩) n (c 0), by have e0 : aa.tmps.getD 19 undef = .pointer (some ⟨S, 0, none⟩) := cc.slot 3 19 (by kernel_rfl) rfl; have q0 := K0.out _ cc.below; simp only [execOp, Act.eval, e0]; go_simp, rfl⟩)
        | 5, _ => exact mstep_first rfl (mwant_none rfl) 5 (Or.inl rfl) (by kernel_rfl) (fun _ _ => rfl)
        | 6, _ => exact mstep_pure rfl (mwant_none rfl) (fun aa ww cc => ⟨.pointer (some ⟨g, q * 8, none⟩), by have e0 : aa.tmps.getD 20 undef = .slice (some ⟨g, 0, none⟩) n (c 0) := cc.slot 4 20 (by kernel_rfl) rfl; have e1 : aa.tmps.getD 21 undef = .int .i64 (q : Int) := cc.slot 5 21 (by kernel_rfl) rfl; simp only [execOp, Act.eval, e0, e1]; go_simp, rfl⟩)
        | 7, _ => exact mstep_pure rfl (mwant_none rfl) (fun aa ww cc => ⟨.pointer (some ⟨g, q * 8, none⟩), by have e0 : aa.tmps.getD 22 undef = .pointer (some ⟨g, q * 8, none⟩) := cc.slot 6 22 (by kernel_rfl) rfl; simp only [execOp, Act.eval, e0]; go_simp, rfl⟩)
        | 8, _ => exact mstep_pure rfl (mwant_none rfl) (fun aa ww cc => ⟨.int .i64 pq, by have e0 : aa.tmps.getD 23 undef = .pointer (some ⟨g, q * 8, none⟩) := cc.slot 7 23 (by kernel_rfl) rfl; have q0 := KQ.out _ cc.below; simp only [execOp, Act.eval, e0]; go_simp, rfl⟩)
        | 9, _ => exact mstep_pure rfl (mwant_none rfl) (fun aa ww cc => ⟨.int .i64 (max gr pq), by have e0 : aa.tmps.getD 16 undef = .int .i64 gr := cc.slot 0 16 (by kernel_rfl) rfl; have e1 : aa.tmps.getD 24 undef = .int .i64 pq := cc.slot 8 24 (by kernel_rfl) rfl; simp only [execOp, Act.eval, e0, e1]; go_simp, rfl⟩)
        | n + 10, h => exact absurd h (by show ¬ (n + 10 < 10); omega)
      · intro VV w5 hlen hb5 hok
        match VV, hlen with
        | [v0, v1, v2, v3, v4, v5, v6, v7, v8, v9], _ =>
          obtain rfl : v0 = .int .i64 gr := hok 0 16 rfl
          obtain rfl : v1 = .pointer (some ⟨S, 0, none⟩) := hok 1 17 rfl
          obtain rfl : v2 = .pointer (some ⟨S, 0, none⟩) := hok 2 18 rfl
          obtain rfl : v3 = .pointer (some ⟨S, 0, none⟩) := hok 3 19 rfl
          obtain rfl : v4 = .slice (some ⟨g, 0, none⟩) n (c 0) := hok 4 20 rfl
          obtain rfl : v5 = .int .i64 (q : Int) := hok 5 21 rfl
          obtain rfl : v6 = .pointer (some ⟨g, q * 8, none⟩) := hok 6 22 rfl
          obtain rfl : v7 = .pointer (some ⟨g, q * 8, none⟩) := hok 7 23 rfl
          obtain rfl : v8 = .int .i64 pq := hok 8 24 rfl
          obtain rfl : v9 = .int .i64 (max gr pq) := hok 9 25 rfl
          have HB5 : Hid (Below w.heap.size w w5) := Lib.hid (HRR.out.below.trans (hb5.mono HRR.out.below.size))
          have X1 : Hid (Blk w5 b1 [.pointer (some ⟨S, 0, none⟩)]) := Lib.hid (HRR.out.x1.below hb5 HRR.out.x1.lt)
          have X3 : Hid (Blk w5 b3 [.int .i64 gr]) := Lib.hid (by rw [HGR.out]; exact HRR.out.x3.below hb5 HRR.out.x3.lt)
          clear hb5 K0 K1 K3 KQ HRR hok
          simp only [List.zip_cons_cons, List.zip_nil_right, putsL]
          go_simp
          go_wp2_with ((with_reducible show wpList _ _ _ (Oper.mk _ (Op.store _ _ _) _ _ _ _ :: _) _ _); refine wpList_storeB rfl 3 _ _ rfl b3 0 [.int .i64 gr] (.int .i64 (max gr pq)) rfl rfl X3.out (Nat.lt_succ_self 0) s1Int rfl ?_)
          intro w6 hx6 hg6
          have HR6 : Hid (RunRel w S b1 b3 P (k + 1) w6) := Lib.hid ⟨HB5.out.trans (grown_below hg6 HB5.out.size fun k e => by injection e with e; have := HB3E.out; have := HBE.out; omega), X1.out.grown hg6 (by intro e; injection e with e; have := HB3E.out; omega), by rw [HGS.out]; exact hx6⟩
          clear hx6 hg6 X1 X3 HB5 HGS
          go_wp2
          go_roundw
          case rel => exact ⟨k + 1, by omega, by go_num, HR6.out⟩
          case measure => simp [intOf]; omega
    · have hkn : k = nr := by omega
      subst hkn
      have HM : Hid (SetM wr S P A c) := Lib.hid (HS.out.below HRR.out.below)
      have X1 : Hid (wr.cell? ⟨b1, 0, none⟩ = some (.pointer (some ⟨S, 0, none⟩))) := Lib.hid (HRR.out.x1.cell rfl)
      have X3 : Hid (wr.cell? ⟨b3, 0, none⟩ = some (.int .i64 (great P P.ready (-1)))) := Lib.hid (by
        have := HRR.out.x3.cell (j := 0) rfl
        rw [HNR.out, List.take_length] at this
        exact this)
      have HB : Hid (Below w.heap.size w wr) := Lib.hid HRR.out.below
      have hmf : ∀ (fn : Fn) (first cap : Array Value) (w : World), (Instr.makeFunc fn first cap).run Try.prog w = .ok (.func fn first cap) w := fun _ _ _ _ => rfl
      have c1 : wr.cell? ⟨b1, 0, none⟩ = some (.pointer (some ⟨S, 0, none⟩)) := X1.out
      have c2 : wr.cell? ⟨S, 2, none⟩ = some (.slice (A 2) k (c 2)) := by rw [HNR.out]; exact HM.out.head
      clear HRR
      go_wp2_with fail
      refine (index_run wr S b1 b3 P A c HM.out H8.out X1.out _ X3.out (A 2) (c 2) P.ready k HNR.out HM.out.rd hr8 HIN.out).mono ?_
      rintro e w1 ⟨rfl, d, rfl⟩
      rcases idx_runI P with ⟨hi, hu⟩ | ⟨j, hj, hi, hu⟩
      · rw [hi]
        have HU := Lib.hid hu
        clear hi hu
        go_wp2
        go_ret
        exact ⟨by rw [HU.out]; rfl, below_drewN' HB.out _⟩
      · rw [hi]
        have HU := Lib.hid hu
        have hjk : j < k := by rw [HNR.out]; exact hj
        obtain ⟨g2, hA2, _, hc2, _⟩ := HM.out.rd.at (j := j) (by rw [nums_len]; exact hj)
        have c3 : (wr.drewN d).cell? ⟨g2, j, none⟩ = some (.int .i64 ((P.ready.getD j 0 : Nat) : Int)) := by
          show wr.cell? _ = _
          rw [hc2]; simp [nums, List.getD, hj]
        obtain ⟨q, hq⟩ : ∃ x, x = ((P.ready.getD j 0 : Nat) : Int) := ⟨_, rfl⟩
        rw [← hq] at c3 hu
        have HU := Lib.hid hu
        rw [hA2] at c2
        clear hi hu hA2 hc2 hj hq
        go_wp2
        go_ret
        exact ⟨by rw [HU.out]; rfl, below_drewN' HB.out _⟩
end Go.Proofs.Ytgeffkdobnipgaa
/- What the calls of procs do, in plain Lean; what holds of every set. No program in sight. -/
namespace Nac.Procs
def busy : Out := ⟨130, 0, false⟩
def waits : Out := ⟨0, 0, true⟩
def errO (e : Int) : Out := ⟨e, 0, false⟩
def startS (P : PSet) (p : Int) : Int × PSet := if isP P p = true then if (P.proc p.toNat).st = 0 then (0, wake P p.toNat) else (1, P) else (4, P)
def dorm (P : PSet) (p : Nat) : PSet := (leave P p).setP p { (leave P p).proc p with st := 0 }
def stopS (P : PSet) (p : Int) : Int × PSet := if isP P p = true then if (P.proc p.toNat).st = 0 then (6, P) else (0, dorm P p.toNat) else (4, P)
def badT (ticks : Int) : Bool := decide (ticks < 0) || decide (1048576 < ticks)
def sleepS (P : PSet) (ticks : Int) : Out × PSet :=
  if runI P < 0 then (errO 6, P) else if badT ticks = true then (errO 1, P) else if ticks = 0 then (ok, wake (leave P (runI P).toNat) (runI P).toNat) else (waits, park P (runI P).toNat (-1) ticks 0)
def refusedI (P : PSet) (p r ticks : Int) : Int := if p < 0 then 6 else if isR P r = false then 4 else if badT ticks = true then 1 else 0
/-- a buffer's item goes out, and who waits to give gives -/
def takeB (P : PSet) (r : Nat) : PSet :=
  let x := P.rsc r
  let P2 := match x.q with
    | [] => P.setR r { x with items := x.items.tail }
    | f :: _ => release (P.setR r { x with items := x.items.tail ++ [(P.proc f).item] }) f ok
  P2.setR r { P2.rsc r with count := (P2.rsc r).items.length }
def takeS (P : PSet) (r ticks : Int) : Out × PSet :=
  if refusedI P (runI P) r ticks ≠ 0 then (errO (refusedI P (runI P) r ticks), P) else
  if (P.rsc r.toNat).count = 0 then if ticks = 0 then (busy, P) else (waits, park P (runI P).toNat r ticks 0) else
  if (P.rsc r.toNat).kind = 0 then (ok, P.setR r.toNat { P.rsc r.toNat with count := (P.rsc r.toNat).count - 1 }) else
  if (P.rsc r.toNat).kind = 2 then (⟨0, (P.rsc r.toNat).items.headD 0, false⟩, takeB P r.toNat) else (ok, P)
/-- one more -/
def more (P : PSet) (r : Nat) : Out × PSet :=
  match (P.rsc r).q with
  | f :: _ => (ok, release P f ok)
  | [] => if (P.rsc r).count = (P.rsc r).most then (errO 5, P) else (ok, P.setR r { P.rsc r with count := (P.rsc r).count + 1 })
def wakeAll (P : PSet) (l : List Nat) : PSet := l.foldl (fun s f => release s f ok) P
def upR (P : PSet) (r : Nat) : PSet := P.setR r { P.rsc r with count := 1 }
def giveB (P : PSet) (r : Nat) (v ticks : Int) : Out × PSet :=
  if (P.rsc r).count = (P.rsc r).most then if ticks = 0 then (busy, P) else (waits, park P (runI P).toNat r ticks v) else
  match (P.rsc r).q with
  | f :: _ => (ok, release P f ⟨0, v, false⟩)
  | [] => more (P.setR r { P.rsc r with items := (P.rsc r).items ++ [v] }) r
def giveS (P : PSet) (r v ticks : Int) : Out × PSet :=
  if refusedI P (runI P) r ticks ≠ 0 then (errO (refusedI P (runI P) r ticks), P) else
  if (P.rsc r.toNat).kind = 1 then (ok, wakeAll (upR P r.toNat) (P.rsc r.toNat).q) else
  if (P.rsc r.toNat).kind = 2 then giveB P r.toNat v ticks else
  if (P.rsc r.toNat).kind = 0 then more P r.toNat else (ok, P)
def lowerS (P : PSet) (r : Int) : Int × PSet := if isR P r = true then if (P.rsc r.toNat).kind = 1 then (0, P.setR r.toNat { P.rsc r.toNat with count := 0 }) else (1, P) else (4, P)
def tick1 (P : PSet) (p : Nat) : PSet :=
  if (P.proc p).st = 2 then
    if 0 < (P.proc p).left - 1 then P.setP p { P.proc p with left := (P.proc p).left - 1 }
    else release (P.setP p { P.proc p with left := (P.proc p).left - 1 }) p (if (P.proc p).res = -1 then ok else errO 131)
  else P
def tickTo (P : PSet) (k : Nat) : PSet := (List.range k).foldl tick1 P
def tickS (P : PSet) : PSet := tickTo P P.ps.length
/-- what holds of a set, of which process x is on its way; of resource ex anybody may wait -/
structure InvX (P : PSet) (x ex : Option Nat) : Prop where
  n1 : 0 < P.ps.length
  n8 : P.ps.length ≤ 8
  r8 : P.rs.length ≤ 8
  rnd : P.ready.Nodup
  rdy : ∀ p, p ∈ P.ready ↔ p < P.ps.length ∧ (P.proc p).st = 1 ∧ x ≠ some p
  qnd : ∀ r, r < P.rs.length → (P.rsc r).q.Nodup
  qin : ∀ r, r < P.rs.length → ∀ p, p ∈ (P.rsc r).q ↔ p < P.ps.length ∧ (P.proc p).st = 2 ∧ (P.proc p).res = r ∧ x ≠ some p
  st : ∀ p, p < P.ps.length → (P.proc p).st = 0 ∨ (P.proc p).st = 1 ∨ (P.proc p).st = 2
  pr : ∀ p, p < P.ps.length → 0 ≤ (P.proc p).pr ∧ (P.proc p).pr ≤ 63
  res : ∀ p, p < P.ps.length → (P.proc p).st = 2 → (P.proc p).res = -1 ∨ (0 ≤ (P.proc p).res ∧ (P.proc p).res < P.rs.length)
  left : ∀ p, p < P.ps.length → (P.proc p).st = 2 → x ≠ some p → 1 ≤ (P.proc p).left ∧ (P.proc p).left ≤ 1048576
  kind : ∀ r, r < P.rs.length → (P.rsc r).kind = 0 ∨ (P.rsc r).kind = 1 ∨ (P.rsc r).kind = 2
  most : ∀ r, r < P.rs.length → 1 ≤ (P.rsc r).most ∧ (P.rsc r).most ≤ 16 ∧ ((P.rsc r).kind = 1 → (P.rsc r).most = 1)
  cnt : ∀ r, r < P.rs.length → 0 ≤ (P.rsc r).count ∧ (P.rsc r).count ≤ (P.rsc r).most
  items : ∀ r, r < P.rs.length → (P.rsc r).kind = 2 → (P.rsc r).count = (P.rsc r).items.length
  emp : ∀ r, r < P.rs.length → ex ≠ some r → (P.rsc r).q ≠ [] → (P.rsc r).count = 0 ∨ ((P.rsc r).kind = 2 ∧ (P.rsc r).count = (P.rsc r).most)
def Inv (P : PSet) : Prop := InvX P none none
theorem nodup_len : ∀ (n : Nat) (l : List Nat), l.Nodup → (∀ x ∈ l, x < n) → l.length ≤ n
  | 0, l, _, h => by
    cases l with
    | nil => exact Nat.le_refl _
    | cons a l => exact absurd (h a (by simp)) (Nat.not_lt_zero _)
  | n + 1, l, hn, h => by
    have h2 := nodup_len n (l.erase n) (hn.erase n) (fun x hx => by
      rw [hn.mem_erase_iff] at hx
      have := h x hx.2
      omega)
    have h3 := List.length_erase (a := n) (l := l)
    split at h3 <;> omega
variable {P : PSet} {x ex : Option Nat}
theorem rsc_out {r : Nat} (h : P.rs.length ≤ r) : P.rsc r = default := by simp [PSet.rsc, List.getD, List.getElem?_eq_none h]
theorem proc_out {p : Nat} (h : P.ps.length ≤ p) : P.proc p = default := by simp [PSet.proc, List.getD, List.getElem?_eq_none h]
theorem InvX.rlen (h : InvX P x ex) : P.ready.length ≤ 8 := Nat.le_trans (nodup_len _ _ h.rnd fun p hp => ((h.rdy p).1 hp).1) h.n8
theorem InvX.qlen (h : InvX P x ex) (r : Nat) : (P.rsc r).q.length ≤ 8 := by
  rcases Nat.lt_or_ge r P.rs.length with hr | hr
  · exact Nat.le_trans (nodup_len _ _ (h.qnd r hr) fun p hp => ((h.qin r hr p).1 hp).1) h.n8
  · rw [rsc_out hr]; exact Nat.zero_le _
theorem InvX.wf (h : InvX P x ex) : Wf P 8 := ⟨by have := h.n8; omega, by have := h.r8; omega, h.rlen, h.qlen, fun p h1 h2 => by
  rcases Nat.lt_or_ge p P.ps.length with hp | hp
  · rcases h.res p hp h1 with h3 | h3
    · exact absurd h3 h2
    · exact h3
  · rw [proc_out hp] at h1; exact absurd h1 (by decide)⟩
theorem Wf.mono {k k' : Nat} (h : Wf P k) (hk : k ≤ k') : Wf P k' := ⟨h.n, h.m, Nat.le_trans h.rd hk, fun r => Nat.le_trans (h.q r) hk, h.res⟩
theorem Wf.setR {k r : Nat} {y : Rsc} (h : Wf P k) (hq : y.q.length ≤ k) : Wf (P.setR r y) k := ⟨h.n, by rw [rs_setR]; exact h.m, h.rd, fun i => by
  by_cases e : i = r
  · subst e
    rcases Nat.lt_or_ge i P.rs.length with hi | hi
    · rw [rsc_setR hi]; exact hq
    · rw [rsc_out (by rw [rs_setR]; exact hi)]; exact Nat.zero_le _
  · rw [rsc_setR_ne e]; exact h.q i, fun p h1 h2 => by rw [rs_setR]; exact h.res p h1 h2⟩
theorem release_m (p : Nat) (o : Out) : (release P p o).rs.length = P.rs.length := by unfold release wake PSet.setP; exact leave_m p
theorem release_n (p : Nat) (o : Out) : (release P p o).ps.length = P.ps.length := by
  show ((leave P p).setP p _ |>.setP p _).ps.length = _
  rw [ps_setP, ps_setP, leave_n]
theorem takeB_nil {k : Nat} (hk : k < P.rs.length) {x : Int} {L : List Int} (hq : (P.rsc k).q = []) (hit : (P.rsc k).items = x :: L) : takeB P k = (P.setR k { P.rsc k with items := L }).setR k { (P.setR k { P.rsc k with items := L }).rsc k with count := L.length } := by
  simp only [takeB]
  split
  · have e : (L.length : Int) = (((P.setR k { P.rsc k with items := L }).rsc k).items.length : Nat) := by rw [rsc_setR hk]
    rw [hit, e]; rfl
  · rename_i h; rw [hq] at h; cases h
theorem takeB_cons {k f : Nat} {rest : List Nat} {x : Int} {L : List Int} (hq : (P.rsc k).q = f :: rest) (hit : (P.rsc k).items = x :: L) : takeB P k = (release (P.setR k { P.rsc k with items := L ++ [(P.proc f).item] }) f ok).setR k { (release (P.setR k { P.rsc k with items := L ++ [(P.proc f).item] }) f ok).rsc k with count := (((release (P.setR k { P.rsc k with items := L ++ [(P.proc f).item] }) f ok).rsc k).items.length : Nat) } := by
  simp only [takeB]
  split
  · rename_i h; rw [hq] at h; cases h
  · rename_i f' r' h
    rw [hq] at h
    injection h with h1 h2
    subst h1
    rw [hit]; rfl
theorem InvX.rin (h : InvX P x ex) : ∀ q ∈ P.ready, q < P.ps.length := fun q hq => ((h.rdy q).1 hq).1
/-- who runs is one of those that are ready -/
theorem run_lt (h : InvX P x ex) : runI P = -1 ∨ ∃ p : Nat, runI P = p ∧ p ∈ P.ready ∧ p < P.ps.length := by
  unfold runI
  cases hr : running P with
  | none => exact .inl rfl
  | some p =>
    have := List.mem_of_find?_eq_some hr
    exact .inr ⟨p, rfl, this, h.rin p this⟩
end Nac.Procs
/- procs: Last, Start, Stop, Lower, Sleep, refused. -/
namespace Nac.Procs
def lastO (P : PSet) (p : Int) : Out := if isP P p = true then (P.proc p.toNat).last else ok
theorem isP_nat {P : PSet} {p : Int} (h : isP P p = true) : ∃ k : Nat, p = k ∧ k < P.ps.length := by
  unfold isP at h
  simp at h
  exact ⟨p.toNat, by omega, by omega⟩
theorem isR_nat {P : PSet} {p : Int} (h : isR P p = true) : ∃ k : Nat, p = k ∧ k < P.rs.length := by
  unfold isR at h
  simp at h
  exact ⟨p.toNat, by omega, by omega⟩
end Nac.Procs
namespace Go.Proofs.Ytgeffkdobnipgaa
open Go.RowKit Nac Nac.Procs
def RetVb (w : World) (v : Value) (e : Ending) (w' : World) : Prop := e = .returned v ∧ Below w.heap.size w w'
theorem RetSet.same {w : World} {S : Nat} {P : PSet} {A : Nat → Option Addr} {c : Nat → Nat} {v v' : Value} (h : SetM w S P A c) (hv : v' = v) : RetSet w S A v P (.returned v') w := ⟨by rw [hv], A, c, h, FrS.refl S A w⟩
theorem Last_calls (w : World) (S : Nat) (P : PSet) (A : Nat → Option Addr) (c : Nat → Nat) (h : SetM w S P A c) (hI : Inv P) (p : Int) : Calls Try.prog 16 #[.pointer (some ⟨S, 0, none⟩), .int .i64 p] w (RetVb w (.agg (ocs (lastO P p)).toArray)) := by
  have H := Lib.hid h
  have HI := Lib.hid hI
  cases hip : isP P p with
  | false =>
    have HX : Hid (lastO P p = ok) := Lib.hid (by unfold lastO; rw [hip]; rfl)
    have HP := Lib.hid hip
    clear h hip hI
    go_enter Try.func16, Try.ntmps16
    go_wp2_with ((with_reducible show wpList _ _ _ (Oper.mk _ (Op.alloc 37) _ _ _ _ :: _) _ _); refine wpList_allocS _ zOut rfl rfl ?_)
    intro w1 hbk hg1 hs1
    obtain ⟨b, hb⟩ : ∃ b, b = w.heap.size := ⟨_, rfl⟩
    rw [← hb] at hbk ⊢
    have HB1 := Lib.hid hbk
    have HW1 : Hid (Below w.heap.size w w1) := Lib.hid (grown_below hg1 (Nat.le_refl _) fun k e => by cases e)
    have HBE : Hid (w.heap.size ≤ b) := Lib.hid (by omega)
    have H1 : Hid (SetM w1 S P A c) := Lib.hid (H.out.below HW1.out)
    clear hbk hg1 hs1 hb H
    go_wp2_with fail
    refine (isProcess_calls w1 S P A c H1.out p).mono ?_
    rintro e w2 ⟨rfl, rfl⟩
    rw [HP.out]
    go_wp2_with ((with_reducible show wpList _ _ _ (Oper.mk _ (Op.store 37 _ _) _ _ _ _ :: _) _ _); refine wpList_storeS sOut rfl _ _ rfl b [.int .i64 0, .int .i64 0, .bool false] (ocs ok) rfl rfl HB1.out rfl rfl (ocs_one _) ?_)
    intro w8 hb8 hg8
    have l8 := Lib.hid (run_loadS sOut b _ hb8 rfl)
    have HBW : Hid (Below w.heap.size w w8) := Lib.hid (HW1.out.trans (grown_below hg8 HW1.out.size fun k e => by injection e with e; have := HBE.out; omega))
    clear hb8 hg8
    go_wp2
    exact bodyPost_ret (v := .agg (ocs ok).toArray) (by simp [results, Try.results16, asAddr, Sem.run_bind, Sem.run_pure, l8.out]) rfl ⟨by rw [HX.out], HBW.out⟩
  | true =>
    have HP := Lib.hid hip
    obtain ⟨k, rfl, hk⟩ := isP_nat hip
    have HX : Hid (lastO P k = (P.proc k).last) := Lib.hid (by unfold lastO; rw [hip]; rfl)
    have HK := Lib.hid hk
    obtain ⟨n, hn⟩ : ∃ n, n = P.ps.length := ⟨_, rfl⟩
    have HN := Lib.hid hn
    have hn8 : n ≤ 1000 := by rw [hn]; exact hI.wf.n
    rw [← hn] at hk
    clear h hip hI hn
    go_enter Try.func16, Try.ntmps16
    go_wp2_with ((with_reducible show wpList _ _ _ (Oper.mk _ (Op.alloc 37) _ _ _ _ :: _) _ _); refine wpList_allocS _ zOut rfl rfl ?_)
    intro w1 hbk hg1 hs1
    obtain ⟨b, hb⟩ : ∃ b, b = w.heap.size := ⟨_, rfl⟩
    rw [← hb] at hbk ⊢
    have HB1 := Lib.hid hbk
    have HW1 : Hid (Below w.heap.size w w1) := Lib.hid (grown_below hg1 (Nat.le_refl _) fun k e => by cases e)
    have HBE : Hid (w.heap.size ≤ b) := Lib.hid (by omega)
    have H1 : Hid (SetM w1 S P A c) := Lib.hid (H.out.below HW1.out)
    obtain ⟨g, hA, _⟩ := H1.out.pcell HK.out
    have c0 := H1.out.head0 hA HN.out
    obtain ⟨u, hu⟩ : ∃ u, u = (P.proc k).last := ⟨_, rfl⟩
    have HRG : Hid (w1.rangeAt g (k * 8 + 2) (ocs u)) := Lib.hid fun j v hv => by
      have hj : j < 3 := (List.getElem?_eq_some_iff.1 hv).1
      rw [show k * 8 + 2 + j = k * 8 + (2 + j) by omega]
      refine H1.out.pget HK.out hA ?_
      rw [hu] at hv
      rcases (by omega : j = 0 ∨ j = 1 ∨ j = 2) with rfl | rfl | rfl <;> exact hv
    rw [← hu] at HX
    obtain ⟨oc, ov, ow⟩ := u
    clear hbk hg1 hs1 hb H hA hu
    go_wp2_with fail
    refine (isProcess_calls w1 S P A c H1.out k).mono ?_
    rintro e w2 ⟨rfl, rfl⟩
    rw [HP.out]
    go_wp2_with (first | ((with_reducible show wpList _ _ _ (Oper.mk _ (Op.load 37 _) _ _ _ _ :: _) _ _); refine wpList_load_mid rfl 37 _ rfl g (k * 8 + 2) rfl [.int .i64 oc, .int .i64 ov, .bool ow] _ HRG.out Try.underlying37 rfl s3Out ?_) | ((with_reducible show wpList _ _ _ (Oper.mk _ (Op.store 37 _ _) _ _ _ _ :: _) _ _); refine wpList_storeS sOut rfl _ _ rfl b [.int .i64 0, .int .i64 0, .bool false] [.int .i64 oc, .int .i64 ov, .bool ow] rfl rfl HB1.out rfl rfl (ocs_one ⟨oc, ov, ow⟩) ?_))
    intro w8 hb8 hg8
    have l8 := Lib.hid (run_loadS sOut b _ hb8 rfl)
    have HBW : Hid (Below w.heap.size w w8) := Lib.hid (HW1.out.trans (grown_below hg8 HW1.out.size fun k e => by injection e with e; have := HBE.out; omega))
    clear hb8 hg8 c0
    go_wp2
    exact bodyPost_ret (v := .agg #[.int .i64 oc, .int .i64 ov, .bool ow]) (by simp [results, Try.results16, asAddr, Sem.run_bind, Sem.run_pure, l8.out]) rfl ⟨by rw [HX.out]; rfl, HBW.out⟩
theorem Start_calls (w : World) (S : Nat) (P : PSet) (A : Nat → Option Addr) (c : Nat → Nat) (h : SetM w S P A c) (hI : Inv P) (p : Int) : Calls Try.prog 11 #[.pointer (some ⟨S, 0, none⟩), .int .i64 p] w (RetSet w S A (.int .i64 (startS P p).1) (startS P p).2) := by
  have H := Lib.hid h
  have HI := Lib.hid hI
  cases hip : isP P p with
  | false =>
    have HX : Hid (startS P p = (4, P)) := Lib.hid (by unfold startS; rw [hip]; rfl)
    have HP := Lib.hid hip
    clear h hip hI
    rw [HX.out]
    go_enter Try.func11, Try.ntmps11
    go_wp2_with fail
    refine (isProcess_calls w S P A c H.out p).mono ?_
    rintro e w2 ⟨rfl, rfl⟩
    rw [HP.out]
    go_wp2
    go_ret
    exact RetSet.same H.out rfl
  | true =>
    have HP := Lib.hid hip
    obtain ⟨k, rfl, hk⟩ := isP_nat hip
    have HK := Lib.hid hk
    obtain ⟨g, hA, _⟩ := h.pcell hk
    obtain ⟨n, hn⟩ : ∃ n, n = P.ps.length := ⟨_, rfl⟩
    have c0 := h.head0 hA hn
    have c1 : w.cell? ⟨g, k * 8 + 1, none⟩ = some (.int .i64 (P.proc k).st) := h.pget (f := 1) hk hA rfl
    obtain ⟨st, hst⟩ : ∃ x, x = (P.proc k).st := ⟨_, rfl⟩
    rw [← hst] at c1
    have hn8 : n ≤ 1000 := by rw [hn]; exact hI.wf.n
    rw [← hn] at hk
    by_cases hs : st = 0
    · have HX : Hid (startS P k = (0, wake P k)) := Lib.hid (by unfold startS; rw [hip, if_pos rfl, if_pos (by rw [← hs, hst]; rfl)]; rfl)
      subst hs
      clear h hip hI hn hA hst
      rw [HX.out]
      go_enter Try.func11, Try.ntmps11
      go_wp2_with fail
      refine (isProcess_calls w S P A c H.out k).mono ?_
      rintro e w2 ⟨rfl, rfl⟩
      rw [HP.out]
      go_wp2_with fail
      refine (wake_calls w S P A c H.out HI.out.wf.n (by have := HI.out.rlen; omega) k HK.out).mono ?_
      rintro e w3 ⟨rfl, hrs⟩
      have HRS := Lib.hid hrs
      clear hrs
      go_wp2
      go_ret
      exact ⟨rfl, HRS.out⟩
    · have HX : Hid (startS P k = (1, P)) := Lib.hid (by unfold startS; rw [hip, if_pos rfl, if_neg (by intro e; exact hs (hst.trans e))])
      have hs1 : (st != 0) = true := by simpa using hs
      have hs2 : (st == 0) = false := by simpa using hs
      clear h hip hI hn hA hst hs
      rw [HX.out]
      go_enter Try.func11, Try.ntmps11
      go_wp2_with fail
      refine (isProcess_calls w S P A c H.out k).mono ?_
      rintro e w2 ⟨rfl, rfl⟩
      rw [HP.out]
      go_wp2
      go_ret
      exact RetSet.same H.out rfl
theorem Stop_calls (w : World) (S : Nat) (P : PSet) (A : Nat → Option Addr) (c : Nat → Nat) (h : SetM w S P A c) (hI : Inv P) (p : Int) : Calls Try.prog 22 #[.pointer (some ⟨S, 0, none⟩), .int .i64 p] w (RetSet w S A (.int .i64 (stopS P p).1) (stopS P p).2) := by
  have H := Lib.hid h
  have HI := Lib.hid hI
  cases hip : isP P p with
  | false =>
    have HX : Hid (stopS P p = (4, P)) := Lib.hid (by unfold stopS; rw [hip]; rfl)
    have HP := Lib.hid hip
    clear h hip hI
    rw [HX.out]
    go_enter Try.func22, Try.ntmps22
    go_wp2_with fail
    refine (isProcess_calls w S P A c H.out p).mono ?_
    rintro e w2 ⟨rfl, rfl⟩
    rw [HP.out]
    go_wp2
    go_ret
    exact RetSet.same H.out rfl
  | true =>
    have HP := Lib.hid hip
    obtain ⟨k, rfl, hk⟩ := isP_nat hip
    have HK := Lib.hid hk
    obtain ⟨g, hA, _⟩ := h.pcell hk
    obtain ⟨n, hn⟩ : ∃ n, n = P.ps.length := ⟨_, rfl⟩
    have c0 := h.head0 hA hn
    have c1 : w.cell? ⟨g, k * 8 + 1, none⟩ = some (.int .i64 (P.proc k).st) := h.pget (f := 1) hk hA rfl
    obtain ⟨st, hst⟩ : ∃ x, x = (P.proc k).st := ⟨_, rfl⟩
    rw [← hst] at c1
    have hn8 : n ≤ 1000 := by rw [hn]; exact hI.wf.n
    have HN := Lib.hid hn
    rw [← hn] at hk
    by_cases hs : st = 0
    · have HX : Hid (stopS P k = (6, P)) := Lib.hid (by unfold stopS; rw [hip, if_pos rfl, if_pos (by rw [← hs, hst]; rfl)])
      subst hs
      clear h hip hI hn hA hst
      rw [HX.out]
      go_enter Try.func22, Try.ntmps22
      go_wp2_with fail
      refine (isProcess_calls w S P A c H.out k).mono ?_
      rintro e w2 ⟨rfl, rfl⟩
      rw [HP.out]
      go_wp2
      go_ret
      exact RetSet.same H.out rfl
    · have HX : Hid (stopS P k = (0, dorm P k)) := Lib.hid (by unfold stopS; rw [hip, if_pos rfl, if_neg (by intro e; exact hs (hst.trans e))]; rfl)
      have hs1 : (st != 0) = true := by simpa using hs
      have hs2 : (st == 0) = false := by simpa using hs
      clear h hip hI hn hA hst hs
      rw [HX.out]
      go_enter Try.func22, Try.ntmps22
      go_wp2_with fail
      refine (isProcess_calls w S P A c H.out k).mono ?_
      rintro e w2 ⟨rfl, rfl⟩
      rw [HP.out]
      go_wp2_with fail
      refine (leave_calls w S P A c H.out (HI.out.wf.mono (by decide)) k HK.out).mono ?_
      rintro e w3 ⟨rfl, A1, c1', h3, hf3⟩
      have hp2 : k < (leave P k).ps.length := by rw [leave_n]; exact HK.out
      obtain ⟨g', hA', _⟩ := h3.pcell hp2
      have c3 := h3.head0 hA' (n := n) (by rw [leave_n]; exact HN.out)
      have H3 := Lib.hid h3
      have HF3 := Lib.hid hf3
      have HA' := Lib.hid hA'
      have HP2 := Lib.hid hp2
      clear h3 hf3 hA' hp2 c0 c1
      go_wp2_with ((with_reducible show wpList _ _ _ (Oper.mk _ (Op.store _ _ _) _ _ _ _ :: _) _ _); refine wpList_storeP rfl 3 _ _ rfl H3 HF3 1 (.int .i64 0) HP2.out HA' (by decide) { (leave P k).proc k with st := 0 } (by rfl) rfl rfl s1Int rfl ?_)
      intro w4 H4 HF4
      clear c3
      go_wp2
      go_ret
      exact ⟨rfl, _, _, H4.out, HF4.out⟩
theorem Lower_calls (w : World) (S : Nat) (P : PSet) (A : Nat → Option Addr) (c : Nat → Nat) (h : SetM w S P A c) (hI : Inv P) (p : Int) : Calls Try.prog 44 #[.pointer (some ⟨S, 0, none⟩), .int .i64 p] w (RetSet w S A (.int .i64 (lowerS P p).1) (lowerS P p).2) := by
  have H := Lib.hid h
  have HI := Lib.hid hI
  cases hip : isR P p with
  | false =>
    have HX : Hid (lowerS P p = (4, P)) := Lib.hid (by unfold lowerS; rw [hip]; rfl)
    have HP := Lib.hid hip
    clear h hip hI
    rw [HX.out]
    go_enter Try.func44, Try.ntmps44
    go_wp2_with fail
    refine (isResource_calls w S P A c H.out p).mono ?_
    rintro e w2 ⟨rfl, rfl⟩
    rw [HP.out]
    go_wp2
    go_ret
    exact RetSet.same H.out rfl
  | true =>
    have HP := Lib.hid hip
    obtain ⟨k, rfl, hk⟩ := isR_nat hip
    have HK := Lib.hid hk
    obtain ⟨g, hA, _⟩ := h.rcell hk
    obtain ⟨n, hn⟩ : ∃ n, n = P.rs.length := ⟨_, rfl⟩
    have c0 := h.head1 hA hn
    have c1 : w.cell? ⟨g, k * 5, none⟩ = some (.int .i64 (P.rsc k).kind) := h.rget (f := 0) hk hA rfl
    obtain ⟨st, hst⟩ : ∃ x, x = (P.rsc k).kind := ⟨_, rfl⟩
    rw [← hst] at c1
    have hn8 : n ≤ 1000 := by rw [hn]; exact hI.wf.m
    have HA := Lib.hid hA
    rw [← hn] at hk
    by_cases hs : st = 1
    · have HX : Hid (lowerS P k = (0, P.setR k { P.rsc k with count := 0 })) := Lib.hid (by unfold lowerS; rw [hip, if_pos rfl, if_pos (by rw [← hs, hst]; rfl)]; rfl)
      subst hs
      have HF := Lib.hid (FrS.refl S A w)
      clear h hip hI hn hA hst
      rw [HX.out]
      go_enter Try.func44, Try.ntmps44
      go_wp2_with fail
      refine (isResource_calls w S P A c H.out k).mono ?_
      rintro e w2 ⟨rfl, rfl⟩
      rw [HP.out]
      go_wp2_with ((with_reducible show wpList _ _ _ (Oper.mk _ (Op.store _ _ _) _ _ _ _ :: _) _ _); refine wpList_storeR rfl 3 _ _ rfl H HF 1 (.int .i64 0) HK.out HA (by decide) { P.rsc k with count := 0 } (by rfl) rfl rfl rfl rfl s1Int rfl ?_)
      intro w4 H4 HF4
      clear c0 c1
      go_wp2
      go_ret
      exact ⟨rfl, _, _, H4.out, HF4.out⟩
    · have HX : Hid (lowerS P k = (1, P)) := Lib.hid (by unfold lowerS; rw [hip, if_pos rfl, if_neg (by intro e; exact hs (hst.trans e))])
      have hs1 : (st != 1) = true := by simpa using hs
      have hs2 : (st == 1) = false := by simpa using hs
      clear h hip hI hn hA hst hs
      rw [HX.out]
      go_enter Try.func44, Try.ntmps44
      go_wp2_with fail
      refine (isResource_calls w S P A c H.out k).mono ?_
      rintro e w2 ⟨rfl, rfl⟩
      rw [HP.out]
      go_wp2
      go_ret
      exact RetSet.same H.out rfl
end Go.Proofs.Ytgeffkdobnipgaa
/- procs: refused, Sleep. -/
namespace Go.Proofs.Ytgeffkdobnipgaa
open Go.RowKit Nac Nac.Procs
theorem RetSet.fin {w w1 wk w8 : World} {S b : Nat} {A A' : Nat → Option Addr} {c' : Nat → Nat} {P' : PSet} {v : Value} (hg1 : w.grownBy w1 none) (hbe : w.heap.size ≤ b) (hnf : ¬ Foot S A b) (hbl : b < w1.heap.size) (hf : FrS S A w1 A' wk) (hm : SetM wk S P' A' c') (hg8 : wk.grownBy w8 (some b)) : RetSet w S A v P' (.returned v) w8 :=
  RetSet.of hg1 hbe hf hg8 (hm.keepB hg8 (hf.nf hnf hbl))
theorem refused_calls (w : World) (S : Nat) (P : PSet) (A : Nat → Option Addr) (c : Nat → Nat) (h : SetM w S P A c) (p r ticks : Int) : Calls Try.prog 30 #[.pointer (some ⟨S, 0, none⟩), .int .i64 p, .int .i64 r, .int .i64 ticks] w (RetIw w (refusedI P p r ticks)) := by
  have H := Lib.hid h
  clear h
  by_cases hp : p < 0
  · have HX : Hid (refusedI P p r ticks = 6) := Lib.hid (by unfold refusedI; rw [if_pos hp])
    rw [HX.out]
    go_enter Try.func30, Try.ntmps30
    go_wp2
    go_ret
    exact ⟨rfl, rfl⟩
  cases hr : isR P r with
  | false =>
    have HX : Hid (refusedI P p r ticks = 4) := Lib.hid (by unfold refusedI; rw [if_neg hp, if_pos hr])
    have HR := Lib.hid hr
    clear hr
    rw [HX.out]
    go_enter Try.func30, Try.ntmps30
    go_wp2_with fail
    refine (isResource_calls w S P A c H.out r).mono ?_
    rintro e w1 ⟨rfl, rfl⟩
    rw [HR.out]
    go_wp2
    go_ret
    exact ⟨rfl, rfl⟩
  | true =>
    have HR := Lib.hid hr
    clear hr
    cases hb : badT ticks with
    | true =>
      have HX : Hid (refusedI P p r ticks = 1) := Lib.hid (by unfold refusedI; rw [if_neg hp, if_neg (by rw [HR.out]; decide), if_pos hb])
      have hb' : ticks < 0 ∨ 1048576 < ticks := by unfold badT at hb; simpa using hb
      clear hb
      rw [HX.out]
      rcases hb' with hb' | hb'
      · go_enter Try.func30, Try.ntmps30
        go_wp2_with fail
        refine (isResource_calls w S P A c H.out r).mono ?_
        rintro e w1 ⟨rfl, rfl⟩
        rw [HR.out]
        go_wp2
        go_ret
        exact ⟨rfl, rfl⟩
      · have h0 : ¬ ticks < 0 := by omega
        go_enter Try.func30, Try.ntmps30
        go_wp2_with fail
        refine (isResource_calls w S P A c H.out r).mono ?_
        rintro e w1 ⟨rfl, rfl⟩
        rw [HR.out]
        go_wp2
        go_ret
        exact ⟨rfl, rfl⟩
    | false =>
      have HX : Hid (refusedI P p r ticks = 0) := Lib.hid (by unfold refusedI; rw [if_neg hp, if_neg (by rw [HR.out]; decide), if_neg (by rw [hb]; decide)])
      have hb' : ¬ ticks < 0 ∧ ¬ 1048576 < ticks := by unfold badT at hb; simpa using hb
      obtain ⟨h0, h1⟩ := hb'
      clear hb
      rw [HX.out]
      go_enter Try.func30, Try.ntmps30
      go_wp2_with fail
      refine (isResource_calls w S P A c H.out r).mono ?_
      rintro e w1 ⟨rfl, rfl⟩
      rw [HR.out]
      go_wp2
      go_ret
      exact ⟨rfl, rfl⟩
theorem Sleep_calls (w : World) (S : Nat) (P : PSet) (A : Nat → Option Addr) (c : Nat → Nat) (h : SetM w S P A c) (hI : Inv P) (ticks : Int) : Calls Try.prog 20 #[.pointer (some ⟨S, 0, none⟩), .int .i64 ticks] w (RetSet w S A (.agg (ocs (sleepS P ticks).1).toArray) (sleepS P ticks).2) := by
  have H := Lib.hid h
  have HI := Lib.hid hI
  have hrun := run_lt hI
  obtain ⟨ru, hru⟩ : ∃ x, x = runI P := ⟨_, rfl⟩
  have HRU := Lib.hid hru
  clear h hI
  rcases hrun with hrun | ⟨p, hrun, hpr, hpn⟩
  · have HX : Hid (sleepS P ticks = (errO 6, P)) := Lib.hid (by unfold sleepS; rw [if_pos (by omega)])
    have HN : Hid (runI P = -1) := Lib.hid hrun
    clear hrun hru HRU
    rw [HX.out]
    go_enter Try.func20, Try.ntmps20
    go_wp2_with ((with_reducible show wpList _ _ _ (Oper.mk _ (Op.alloc 37) _ _ _ _ :: _) _ _); refine wpList_allocS _ zOut rfl rfl ?_)
    intro w1 hbk hg1 hs1
    obtain ⟨b, hb⟩ : ∃ b, b = w.heap.size := ⟨_, rfl⟩
    rw [← hb] at hbk ⊢
    have HNF : Hid (¬ Foot S A b) := Lib.hid (H.out.notFoot (by rw [hb]; exact Nat.le_refl _))
    have HBL : Hid (b < w1.heap.size) := Lib.hid (by omega)
    have HB1 := Lib.hid hbk
    have HG1 := Lib.hid hg1
    have HBE : Hid (w.heap.size ≤ b) := Lib.hid (by omega)
    have H1 : Hid (SetM w1 S P A c) := Lib.hid (H.out.apart hg1 fun k e => by cases e)
    clear hbk hg1 hs1 hb H
    go_wp2_with fail
    refine (Running_calls w1 S P A c H1.out HI.out.wf.n (by have := HI.out.rlen; omega) HI.out.rin).mono ?_
    rintro e w2 ⟨rfl, hb2⟩
    have H2 : Hid (SetM w2 S P A c) := Lib.hid (H1.out.below hb2)
    have HF2 : Hid (FrS S A w1 A w2) := Lib.hid (FrS.below hb2)
    have HB2 : Hid (Blk w2 b [.int .i64 0, .int .i64 0, .bool false]) := Lib.hid (HB1.out.below hb2 HB1.out.lt)
    clear hb2 H1 HB1
    rw [HN.out]
    go_wp2_with ((with_reducible show wpList _ _ _ (Oper.mk _ (Op.store 37 _ _) _ _ _ _ :: _) _ _); refine wpList_storeS sOut rfl _ _ rfl b [.int .i64 0, .int .i64 0, .bool false] (ocs (errO 6)) rfl rfl HB2.out rfl rfl (ocs_one _) ?_)
    intro w8 hb8 hg8
    have l8 := Lib.hid (run_loadS sOut b _ hb8 rfl)
    have HRS := Lib.hid (RetSet.fin (v := .agg (ocs (errO 6)).toArray) HG1.out HBE.out HNF.out HBL.out HF2.out H2.out hg8)
    clear hb8 hg8
    go_wp2
    exact bodyPost_ret (v := .agg (ocs (errO 6)).toArray) (by simp [results, Try.results20, asAddr, Sem.run_bind, Sem.run_pure, l8.out]) rfl HRS.out
  · have HN : Hid (runI P = p) := Lib.hid hrun
    have HPN := Lib.hid hpn
    have h0 : ¬ runI P < 0 := by omega
    have htn : (runI P).toNat = p := by omega
    cases hb : badT ticks with
    | true =>
      have HX : Hid (sleepS P ticks = (errO 1, P)) := Lib.hid (by unfold sleepS; rw [if_neg h0, if_pos hb])
      have hb' : ticks < 0 ∨ (¬ ticks < 0 ∧ 1048576 < ticks) := by unfold badT at hb; simp at hb; omega
      clear hb hrun hru HRU h0 htn hpr hpn
      rw [HX.out]
      rcases hb' with hb' | ⟨h0, hb'⟩
      · go_enter Try.func20, Try.ntmps20
        go_wp2_with ((with_reducible show wpList _ _ _ (Oper.mk _ (Op.alloc 37) _ _ _ _ :: _) _ _); refine wpList_allocS _ zOut rfl rfl ?_)
        intro w1 hbk hg1 hs1
        obtain ⟨b, hb⟩ : ∃ b, b = w.heap.size := ⟨_, rfl⟩
        rw [← hb] at hbk ⊢
        have HNF : Hid (¬ Foot S A b) := Lib.hid (H.out.notFoot (by rw [hb]; exact Nat.le_refl _))
        have HBL : Hid (b < w1.heap.size) := Lib.hid (by omega)
        have HB1 := Lib.hid hbk
        have HG1 := Lib.hid hg1
        have HBE : Hid (w.heap.size ≤ b) := Lib.hid (by omega)
        have H1 : Hid (SetM w1 S P A c) := Lib.hid (H.out.apart hg1 fun k e => by cases e)
        clear hbk hg1 hs1 hb H
        go_wp2_with fail
        refine (Running_calls w1 S P A c H1.out HI.out.wf.n (by have := HI.out.rlen; omega) HI.out.rin).mono ?_
        rintro e w2 ⟨rfl, hb2⟩
        have H2 : Hid (SetM w2 S P A c) := Lib.hid (H1.out.below hb2)
        have HF2 : Hid (FrS S A w1 A w2) := Lib.hid (FrS.below hb2)
        have HB2 : Hid (Blk w2 b [.int .i64 0, .int .i64 0, .bool false]) := Lib.hid (HB1.out.below hb2 HB1.out.lt)
        clear hb2 H1 HB1
        rw [HN.out]
        go_wp2_with ((with_reducible show wpList _ _ _ (Oper.mk _ (Op.store 37 _ _) _ _ _ _ :: _) _ _); refine wpList_storeS sOut rfl _ _ rfl b [.int .i64 0, .int .i64 0, .bool false] (ocs (errO 1)) rfl rfl HB2.out rfl rfl (ocs_one _) ?_)
        intro w8 hb8 hg8
        have l8 := Lib.hid (run_loadS sOut b _ hb8 rfl)
        have HRS := Lib.hid (RetSet.fin (v := .agg (ocs (errO 1)).toArray) HG1.out HBE.out HNF.out HBL.out HF2.out H2.out hg8)
        clear hb8 hg8
        go_wp2
        exact bodyPost_ret (v := .agg (ocs (errO 1)).toArray) (by simp [results, Try.results20, asAddr, Sem.run_bind, Sem.run_pure, l8.out]) rfl HRS.out
      · go_enter Try.func20, Try.ntmps20
        go_wp2_with ((with_reducible show wpList _ _ _ (Oper.mk _ (Op.alloc 37) _ _ _ _ :: _) _ _); refine wpList_allocS _ zOut rfl rfl ?_)
        intro w1 hbk hg1 hs1
        obtain ⟨b, hb⟩ : ∃ b, b = w.heap.size := ⟨_, rfl⟩
        rw [← hb] at hbk ⊢
        have HNF : Hid (¬ Foot S A b) := Lib.hid (H.out.notFoot (by rw [hb]; exact Nat.le_refl _))
        have HBL : Hid (b < w1.heap.size) := Lib.hid (by omega)
        have HB1 := Lib.hid hbk
        have HG1 := Lib.hid hg1
        have HBE : Hid (w.heap.size ≤ b) := Lib.hid (by omega)
        have H1 : Hid (SetM w1 S P A c) := Lib.hid (H.out.apart hg1 fun k e => by cases e)
        clear hbk hg1 hs1 hb H
        go_wp2_with fail
        refine (Running_calls w1 S P A c H1.out HI.out.wf.n (by have := HI.out.rlen; omega) HI.out.rin).mono ?_
        rintro e w2 ⟨rfl, hb2⟩
        have H2 : Hid (SetM w2 S P A c) := Lib.hid (H1.out.below hb2)
        have HF2 : Hid (FrS S A w1 A w2) := Lib.hid (FrS.below hb2)
        have HB2 : Hid (Blk w2 b [.int .i64 0, .int .i64 0, .bool false]) := Lib.hid (HB1.out.below hb2 HB1.out.lt)
        clear hb2 H1 HB1
        rw [HN.out]
        go_wp2_with ((with_reducible show wpList _ _ _ (Oper.mk _ (Op.store 37 _ _) _ _ _ _ :: _) _ _); refine wpList_storeS sOut rfl _ _ rfl b [.int .i64 0, .int .i64 0, .bool false] (ocs (errO 1)) rfl rfl HB2.out rfl rfl (ocs_one _) ?_)
        intro w8 hb8 hg8
        have l8 := Lib.hid (run_loadS sOut b _ hb8 rfl)
        have HRS := Lib.hid (RetSet.fin (v := .agg (ocs (errO 1)).toArray) HG1.out HBE.out HNF.out HBL.out HF2.out H2.out hg8)
        clear hb8 hg8
        go_wp2
        exact bodyPost_ret (v := .agg (ocs (errO 1)).toArray) (by simp [results, Try.results20, asAddr, Sem.run_bind, Sem.run_pure, l8.out]) rfl HRS.out
    | false =>
      have hb' : ¬ ticks < 0 ∧ ¬ 1048576 < ticks := by unfold badT at hb; simpa using hb
      obtain ⟨hb1, hb2'⟩ := hb'
      by_cases ht : ticks = 0
      · subst ht
        have HX : Hid (sleepS P 0 = (ok, wake (leave P p) p)) := Lib.hid (by unfold sleepS; rw [if_neg h0, if_neg (by rw [hb]; decide), if_pos rfl, htn])
        clear hb hrun hru HRU h0 htn hpr hpn hb1 hb2'
        rw [HX.out]
        go_enter Try.func20, Try.ntmps20
        go_wp2_with ((with_reducible show wpList _ _ _ (Oper.mk _ (Op.alloc 37) _ _ _ _ :: _) _ _); refine wpList_allocS _ zOut rfl rfl ?_)
        intro w1 hbk hg1 hs1
        obtain ⟨b, hb⟩ : ∃ b, b = w.heap.size := ⟨_, rfl⟩
        rw [← hb] at hbk ⊢
        have HNF : Hid (¬ Foot S A b) := Lib.hid (H.out.notFoot (by rw [hb]; exact Nat.le_refl _))
        have HBL : Hid (b < w1.heap.size) := Lib.hid (by omega)
        have HB1 := Lib.hid hbk
        have HG1 := Lib.hid hg1
        have HBE : Hid (w.heap.size ≤ b) := Lib.hid (by omega)
        have H1 : Hid (SetM w1 S P A c) := Lib.hid (H.out.apart hg1 fun k e => by cases e)
        clear hbk hg1 hs1 hb H
        go_wp2_with fail
        refine (Running_calls w1 S P A c H1.out HI.out.wf.n (by have := HI.out.rlen; omega) HI.out.rin).mono ?_
        rintro e w2 ⟨rfl, hb2⟩
        have H2 : Hid (SetM w2 S P A c) := Lib.hid (H1.out.below hb2)
        have HF2 : Hid (FrS S A w1 A w2) := Lib.hid (FrS.below hb2)
        have HB2 : Hid (Blk w2 b [.int .i64 0, .int .i64 0, .bool false]) := Lib.hid (HB1.out.below hb2 HB1.out.lt)
        clear hb2 H1 HB1
        rw [HN.out]
        go_wp2_with fail
        refine (leave_calls w2 S P A c H2.out (HI.out.wf.mono (by decide)) p HPN.out).mono ?_
        rintro e w3 ⟨rfl, A3, c3, h3, hf3⟩
        have H3 := Lib.hid h3
        have HF3 := Lib.hid (HF2.out.trans hf3)
        have hf3' := Lib.hid hf3
        clear h3 hf3 H2 HF2
        go_wp2_with fail
        refine (wake_calls w3 S _ A3 c3 H3.out (by rw [leave_n]; exact HI.out.wf.n) (by rw [leave_ready]; have := without_le P.ready p; have := HI.out.rlen; omega) p (by rw [leave_n]; exact HPN.out)).mono ?_
        rintro e w4 ⟨rfl, A4, c4, h4, hf4⟩
        have H4 := Lib.hid h4
        have HF4 := Lib.hid (HF3.out.trans hf4)
        have HB4 : Hid (Blk w4 b [.int .i64 0, .int .i64 0, .bool false]) := Lib.hid (hf4.blk ((hf3').out.blk HB2.out HNF.out) (HF3.out.nf HNF.out HBL.out))
        clear h4 hf4 H3 HF3
        go_wp2_with ((with_reducible show wpList _ _ _ (Oper.mk _ (Op.store 37 _ _) _ _ _ _ :: _) _ _); refine wpList_storeS sOut rfl _ _ rfl b [.int .i64 0, .int .i64 0, .bool false] (ocs ok) rfl rfl HB4.out rfl rfl (ocs_one _) ?_)
        intro w8 hb8 hg8
        have l8 := Lib.hid (run_loadS sOut b _ hb8 rfl)
        have HRS := Lib.hid (RetSet.fin (v := .agg (ocs ok).toArray) HG1.out HBE.out HNF.out HBL.out HF4.out H4.out hg8)
        clear hb8 hg8
        go_wp2
        exact bodyPost_ret (v := .agg (ocs ok).toArray) (by simp [results, Try.results20, asAddr, Sem.run_bind, Sem.run_pure, l8.out]) rfl HRS.out
      · have HX : Hid (sleepS P ticks = (waits, park P p (-1) ticks 0)) := Lib.hid (by unfold sleepS; rw [if_neg h0, if_neg (by rw [hb]; decide), if_neg ht, htn])
        have ht1 : (ticks == 0) = false := by simpa using ht
        have ht2 : (ticks != 0) = true := by simpa using ht
        clear hb hrun hru HRU h0 htn hpr hpn ht
        rw [HX.out]
        go_enter Try.func20, Try.ntmps20
        go_wp2_with ((with_reducible show wpList _ _ _ (Oper.mk _ (Op.alloc 37) _ _ _ _ :: _) _ _); refine wpList_allocS _ zOut rfl rfl ?_)
        intro w1 hbk hg1 hs1
        obtain ⟨b, hb⟩ : ∃ b, b = w.heap.size := ⟨_, rfl⟩
        rw [← hb] at hbk ⊢
        have HNF : Hid (¬ Foot S A b) := Lib.hid (H.out.notFoot (by rw [hb]; exact Nat.le_refl _))
        have HBL : Hid (b < w1.heap.size) := Lib.hid (by omega)
        have HB1 := Lib.hid hbk
        have HG1 := Lib.hid hg1
        have HBE : Hid (w.heap.size ≤ b) := Lib.hid (by omega)
        have H1 : Hid (SetM w1 S P A c) := Lib.hid (H.out.apart hg1 fun k e => by cases e)
        clear hbk hg1 hs1 hb H
        go_wp2_with fail
        refine (Running_calls w1 S P A c H1.out HI.out.wf.n (by have := HI.out.rlen; omega) HI.out.rin).mono ?_
        rintro e w2 ⟨rfl, hb2⟩
        have H2 : Hid (SetM w2 S P A c) := Lib.hid (H1.out.below hb2)
        have HF2 : Hid (FrS S A w1 A w2) := Lib.hid (FrS.below hb2)
        have HB2 : Hid (Blk w2 b [.int .i64 0, .int .i64 0, .bool false]) := Lib.hid (HB1.out.below hb2 HB1.out.lt)
        clear hb2 H1 HB1
        rw [HN.out]
        go_wp2_with fail
        refine (wait_time w2 S P A c H2.out (HI.out.wf.mono (by decide)) p HPN.out ticks 0).mono ?_
        rintro e w4 ⟨rfl, A4, c4, h4, hf4⟩
        have H4 := Lib.hid h4
        have HF4 := Lib.hid (HF2.out.trans hf4)
        have HB4 : Hid (Blk w4 b [.int .i64 0, .int .i64 0, .bool false]) := Lib.hid (hf4.blk HB2.out HNF.out)
        clear h4 hf4 H2 HF2
        go_wp2_with ((with_reducible show wpList _ _ _ (Oper.mk _ (Op.store 37 _ _) _ _ _ _ :: _) _ _); refine wpList_storeS sOut rfl _ _ rfl b [.int .i64 0, .int .i64 0, .bool false] (ocs waits) rfl rfl HB4.out rfl rfl (ocs_one _) ?_)
        intro w8 hb8 hg8
        have l8 := Lib.hid (run_loadS sOut b _ hb8 rfl)
        have HRS := Lib.hid (RetSet.fin (v := .agg (ocs waits).toArray) HG1.out HBE.out HNF.out HBL.out HF4.out H4.out hg8)
        clear hb8 hg8
        go_wp2
        exact bodyPost_ret (v := .agg (ocs waits).toArray) (by simp [results, Try.results20, asAddr, Sem.run_bind, Sem.run_pure, l8.out]) rfl HRS.out
end Go.Proofs.Ytgeffkdobnipgaa
