/- procs: wait. -/
import Derived.Test.YtgeffkdobnipgaaProcRel
import Derived.Test.YtgeffkdobnipgaaStruct
namespace Nac.Procs
theorem park_time (P : PSet) (p : Nat) (ticks item : Int) : park P p (-1) ticks item = (leave P p).setP p { (leave P p).proc p with st := 2, res := -1, left := ticks, item := item } := by
  unfold park; rw [if_neg (by simp)]
theorem park_res (P : PSet) (p r : Nat) (ticks item : Int) : park P p r ticks item = ((leave P p).setP p { (leave P p).proc p with st := 2, res := r, left := ticks, item := item }).setR r { (leave P p).rsc r with q := ((leave P p).rsc r).q ++ [p] } := by
  unfold park
  rw [if_pos (by omega)]
  rfl
end Nac.Procs
namespace Go.Proofs.Ytgeffkdobnipgaa
open Go.RowKit Nac Nac.Procs
theorem sOut : SInfo 37 3 := ⟨s3Out, _, Try.underlying37, rfl⟩
theorem zOut : ((Try.prog.info? 37).bind (·.zero)) = some (.agg (([.int .i64 0, .int .i64 0, .bool false] : List Value).toArray)) := by kernel_rfl
def ocs (u : Out) : List Value := [.int .i64 u.code, .int .i64 u.value, .bool u.waits]
theorem ocs_one (u : Out) : ∀ v ∈ ocs u, v.oneCell' = true := by intro v hv; simp [ocs] at hv; rcases hv with rfl | rfl | rfl <;> rfl
theorem build1_int (w : World) (x : Int) : (Instr.buildSlice 28 1 #[(0, .int .i64 x)]).run Try.prog w = .ok (.slice (some ⟨w.heap.size, 0, none⟩) 1 1) (w.alloc (.cells #[.int .i64 x] 3)) := by
  obtain ⟨ti, hi, hz, hs1, hb1⟩ := info_parts Try.infoIt
  refine run_buildSlice w _ _ 1 _ _ ti _ Try.underlying28 hi hz (by rw [hs1]; decide) (by rw [hs1]; decide) ?_
  rw [hs1]; kernel_rfl
theorem SetM.keepB {w w' : World} {S : Nat} {P : PSet} {A : Nat → Option Addr} {c : Nat → Nat} (h : SetM w S P A c) {b : Nat} (hg : w.grownBy w' (some b)) (hf : ¬ Foot S A b) : SetM w' S P A c := h.apart hg fun k e => by injection e with e; rw [← e]; exact hf
theorem FrS.nf {S : Nat} {A A' : Nat → Option Addr} {w w' : World} {b : Nat} (h : FrS S A w A' w') (hf : ¬ Foot S A b) (hb : b < w.heap.size) : ¬ Foot S A' b := fun h2 => by
  rcases h.foot b h2 with h3 | h3
  · exact hf h3
  · omega
/-- a call whose result lies in a variable of its own: the variable's block is new, what the set leaves is seen from ahead of it -/
theorem RetSet.of {w w1 w' : World} {S b : Nat} {A A' : Nat → Option Addr} {c' : Nat → Nat} {P' : PSet} {v : Value} {w2 : World} (h1 : w.grownBy w1 none) (hb : w.heap.size ≤ b) (hf : FrS S A w1 A' w2) (hg : w2.grownBy w' (some b)) (hm : SetM w' S P' A' c') : RetSet w S A v P' (.returned v) w' :=
  ⟨rfl, A', c', hm, ⟨by rw [hg.os, hf.os, h1.os], by rw [hg.tape, hf.tape, h1.tape], by rw [hg.output, hf.output, h1.output], Nat.le_trans h1.size (Nat.le_trans hf.size hg.size), fun k hk hnf => by
    rw [hg.block k (Nat.lt_of_lt_of_le hk (Nat.le_trans h1.size hf.size)) (fun e => by injection e with e; omega), hf.block k (Nat.lt_of_lt_of_le hk h1.size) hnf, h1.block k hk (by simp)], fun k hk => by
    rcases hf.foot k hk with h3 | h3
    · exact .inl h3
    · exact .inr (Nat.le_trans h1.size h3), hf.p0, hf.p1⟩⟩
def KnowC (w0 : World) (row : Option Nat) (b k : Nat) (v : Value) : Prop := ∀ w', w0.grownBy w' row → w'.cell? ⟨b, k, none⟩ = some v
theorem knowC {w0 : World} {row : Option Nat} {b k : Nat} {v : Value} (h : w0.cell? ⟨b, k, none⟩ = some v) (hne : some b ≠ row) : Hid (KnowC w0 row b k v) := Lib.hid fun w' hg => hg.cell h hne
theorem wait_res (w : World) (S : Nat) (P : PSet) (A : Nat → Option Addr) (c : Nat → Nat) (h : SetM w S P A c) (hw : Wf P 999) (p r : Nat) (hp : p < P.ps.length) (hr : r < P.rs.length) (ticks item : Int) :
    Calls Try.prog 32 #[.pointer (some ⟨S, 0, none⟩), .int .i64 (p : Int), .int .i64 (r : Int), .int .i64 ticks, .int .i64 item] w (RetSet w S A (.agg #[.int .i64 0, .int .i64 0, .bool true]) (park P p r ticks item)) := by
  have HPK := Lib.hid (park_res P p r ticks item)
  have H := Lib.hid h
  have HW := Lib.hid hw
  have HP := Lib.hid hp
  have HR := Lib.hid hr
  clear h hw hp hr
  go_enter Try.func32, Try.ntmps32
  go_wp2_with ((with_reducible show wpList _ _ _ (Oper.mk _ (Op.alloc 37) _ _ _ _ :: _) _ _); refine wpList_allocS _ zOut rfl rfl ?_)
  intro w1 hbk hg1 hs1
  obtain ⟨b, hb⟩ : ∃ b, b = w.heap.size := ⟨_, rfl⟩
  rw [← hb] at hbk ⊢
  have HNF : Hid (¬ Foot S A b) := Lib.hid (H.out.notFoot (by rw [hb]; exact Nat.le_refl _))
  have HBL : Hid (b < w1.heap.size) := Lib.hid (by omega)
  have HB1 := Lib.hid hbk
  have HG1 := Lib.hid hg1
  have HBE : Hid (w.heap.size ≤ b) := Lib.hid (by omega)
  have H1 : Hid (SetM w1 S P A c) := Lib.hid (H.out.apart hg1 fun k e => by cases e)
  clear hbk hg1 hs1 hb H
  go_wp2_with fail
  refine (leave_calls _ S P A c H1.out ⟨HW.out.n, HW.out.m, by have := HW.out.rd; omega, fun r => by have := HW.out.q r; omega, HW.out.res⟩ p HP.out).mono ?_
  rintro e w2 ⟨rfl, A1, c1, h2, hf2⟩
  have HF2 := Lib.hid hf2
  have BX2 := Lib.hid (hf2.blk HB1.out HNF.out)
  have hp2 : p < (leave P p).ps.length := by rw [leave_n]; exact HP.out
  have hr2 : r < (leave P p).rs.length := by rw [leave_m]; exact HR.out
  obtain ⟨g, hA, _⟩ := h2.pcell hp2
  obtain ⟨g1, hA1, _⟩ := h2.rcell hr2
  obtain ⟨n, hn⟩ : ∃ n, n = (leave P p).ps.length := ⟨_, rfl⟩
  have c0 := h2.head0 hA hn
  have HP2 := Lib.hid hp2
  have HR2 := Lib.hid hr2
  have hpn : p < n := by rw [hn]; exact hp2
  have hn8 : n ≤ 1000 := by rw [hn, leave_n]; exact HW.out.n
  have H2 := Lib.hid h2
  have HA := Lib.hid hA
  have HA1 := Lib.hid hA1
  have HN := Lib.hid hn
  have HBX1 := HB1
  clear h2 hf2 hA hA1 hn hp2 hr2 HB1 H1 BX2
  go_wp2_with ((with_reducible show wpList _ _ _ (Oper.mk _ (Op.store _ _ _) _ _ _ _ :: _) _ _); refine wpList_storeP rfl 3 _ _ rfl H2 HF2 1 (.int .i64 2) (by first | exact HP2.out | (rw [ps_setP]; exact HP2.out)) HA (by decide) { (leave P p).proc p with st := 2 } (rfl) rfl rfl s1Int rfl ?_)
  intro w3 H3 HF3
  go_wp2_with ((with_reducible show wpList _ _ _ (Oper.mk _ (Op.store _ _ _) _ _ _ _ :: _) _ _); refine wpList_storeP rfl 3 _ _ rfl H3 HF3 5 (.int .i64 (r : Int)) (by first | exact HP2.out | (rw [ps_setP]; exact HP2.out)) HA (by decide) { (leave P p).proc p with st := 2, res := r } (by rw [proc_setP HP2.out]; rfl) rfl rfl s1Int rfl ?_)
  rw [setP_setP]
  intro w4 H4 HF4
  go_wp2_with ((with_reducible show wpList _ _ _ (Oper.mk _ (Op.store _ _ _) _ _ _ _ :: _) _ _); refine wpList_storeP rfl 3 _ _ rfl H4 HF4 6 (.int .i64 ticks) (by first | exact HP2.out | (rw [ps_setP]; exact HP2.out)) HA (by decide) { (leave P p).proc p with st := 2, res := r, left := ticks } (by rw [proc_setP HP2.out]; rfl) rfl rfl s1Int rfl ?_)
  rw [setP_setP]
  intro w5 H5 HF5
  go_wp2_with ((with_reducible show wpList _ _ _ (Oper.mk _ (Op.store _ _ _) _ _ _ _ :: _) _ _); refine wpList_storeP rfl 2 _ _ rfl H5 HF5 7 (.int .i64 item) (by first | exact HP2.out | (rw [ps_setP]; exact HP2.out)) HA (by decide) { (leave P p).proc p with st := 2, res := r, left := ticks, item := item } (by rw [proc_setP HP2.out]; rfl) rfl rfl s1I64 rfl ?_)
  rw [setP_setP]
  intro w6 H6 HF6
  clear H2 HF2 H3 HF3 H4 HF4 H5 HF5 c0
  obtain ⟨P3, hP3⟩ : ∃ P3, P3 = (leave P p).setP p { (leave P p).proc p with st := 2, res := r, left := ticks, item := item } := ⟨_, rfl⟩
  rw [← hP3] at H6
  have HP3 := Lib.hid hP3
  have hr3 : r < P3.rs.length := by rw [hP3]; exact HR2.out
  have hqe : P3.rsc r = (leave P p).rsc r := by rw [hP3]; rfl
  obtain ⟨n1, hn1⟩ : ∃ n, n = P3.rs.length := ⟨_, rfl⟩
  obtain ⟨lq, hlq⟩ : ∃ n, n = (P3.rsc r).q.length := ⟨_, rfl⟩
  have hrn : r < n1 := by rw [hn1]; exact hr3
  have hn18 : n1 ≤ 1000 := by rw [hn1, hP3]; show (leave P p).rs.length ≤ 1000; rw [leave_m]; exact HW.out.m
  have hlq8 : lq ≤ 999 := by rw [hlq, hqe]; exact Nat.le_trans (leave_q p r) (HW.out.q r)
  have C1 : Hid (KnowC w6 ((A1 (3 + 2 * r)).map (·.block)) S 1 (.slice (some ⟨g1, 0, none⟩) n1 (c1 1))) := knowC (H6.out.head1 HA1.out hn1) (fun e => H6.out.aps _ e.symm)
  have CQ : Hid (KnowC w6 ((A1 (3 + 2 * r)).map (·.block)) g1 (r * 5 + 3) (.slice (A1 (3 + 2 * r)) lq (c1 (3 + 2 * r)))) := knowC (by rw [hlq]; exact H6.out.rget (f := 3) hr3 HA1.out rfl) (fun e => H6.out.ap 1 (3 + 2 * r) g1 (by omega) (by rw [HA1.out]; rfl) e.symm)
  have QR : Hid (Row w6 3 1 (A1 (3 + 2 * r)) (c1 (3 + 2 * r)) lq (nums (P3.rsc r).q)) := Lib.hid (by rw [hlq]; exact H6.out.qo r hr3)
  have HROW : Hid (∀ k, (A1 (3 + 2 * r)).map (·.block) = some k → k < w6.heap.size) := Lib.hid fun k hk => H6.out.lt _ k hk
  have HLQ := Lib.hid hlq
  have HR3 := Lib.hid hr3
  have HQE := Lib.hid hqe
  have hrne : ((r : Int) != -1) = true := by simp
  have hrne2 : ((r : Int) == -1) = false := by simp
  clear hn1 hlq hr3 hqe hP3
  go_wp2_with fail
  clear hrne hrne2
  refine region_relL 16 (AppR ((A1 (3 + 2 * r)).map (·.block)) 15) (fun ix9 => ([.is (.pointer (some ⟨S, 0, none⟩)), .is (.pointer (some ⟨S, 0, none⟩)), .is (.pointer (some ⟨S, 1, none⟩)), .is (.slice (some ⟨g1, 0, none⟩) n1 (c1 1)), .is (.int .i64 (r : Int)), .is (.pointer (some ⟨S, 0, none⟩)), .is (.pointer (some ⟨S, 0, none⟩)), .is (.pointer (some ⟨S, 1, none⟩)), .is (.slice (some ⟨g1, 0, none⟩) n1 (c1 1)), .is (.int .i64 (r : Int)), .is (.pointer (some ⟨g1, r * 5, none⟩)), .is (.pointer (some ⟨g1, r * 5 + 3, none⟩)), .is (.slice (A1 (3 + 2 * r)) lq (c1 (3 + 2 * r))), .is (.int .i64 (p : Int)), .pr (Built1 w6 (.int .i64 (p : Int))), .pr (Apped w6 3 (A1 (3 + 2 * r)) lq (nums (P3.rsc r).q) (.int .i64 (p : Int)))] : List LD).getD ix9 (.is undef)) [some 38, some 39, some 40, some 41, some 42, some 43, some 44, some 45, some 46, some 47, some 48, some 49, some 50, some 51, some 52, some 53] (AppJ w6 ((A1 (3 + 2 * r)).map (·.block)) 15) (fun ii hii => ?_) (AppR.refl _ 15) (by kernel_rfl) (by kernel_rfl) (by kernel_rfl) (by kernel_rfl) rfl (AppJ.start w6 _ 15) (fun ii hii => ?_) ?_
  · match ii, hii with
    | 0, _ => exact LD.keeps_is _ _ _
    | 1, _ => exact LD.keeps_is _ _ _
    | 2, _ => exact LD.keeps_is _ _ _
    | 3, _ => exact LD.keeps_is _ _ _
    | 4, _ => exact LD.keeps_is _ _ _
    | 5, _ => exact LD.keeps_is _ _ _
    | 6, _ => exact LD.keeps_is _ _ _
    | 7, _ => exact LD.keeps_is _ _ _
    | 8, _ => exact LD.keeps_is _ _ _
    | 9, _ => exact LD.keeps_is _ _ _
    | 10, _ => exact LD.keeps_is _ _ _
    | 11, _ => exact LD.keeps_is _ _ _
    | 12, _ => exact LD.keeps_is _ _ _
    | 13, _ => exact LD.keeps_is _ _ _
    | 14, _ => exact keep_built 14 _ HROW.out
    | 15, _ => exact keep_apped _ _ _ _ _
    | n + 16, h => exact absurd h (by show ¬ (n + 16 < 16); omega)
  · match ii, hii with
    | 0, _ => exact lstep_first (AppR.refl _ 15) rfl (lwant_none rfl) (AppJ.pure (by decide)) 0 (Or.inl rfl) (by kernel_rfl) (fun _ => rfl)
    | 1, _ => exact lstep_pure (AppR.refl _ 15) rfl (lwant_none rfl) (AppJ.pure (by decide)) (fun LL aa ww cc => ⟨.pointer (some ⟨S, 0, none⟩), by have e0 : aa.tmps.getD 38 undef = .pointer (some ⟨S, 0, none⟩) := cc.slot 0 38 (by kernel_rfl) rfl; simp only [execOp, Act.eval, e0]; go_simp, rfl⟩)
    | 2, _ => exact lstep_pure (AppR.refl _ 15) rfl (lwant_none rfl) (AppJ.pure (by decide)) (fun LL aa ww cc => ⟨.pointer (some ⟨S, 1, none⟩), by have e0 : aa.tmps.getD 39 undef = .pointer (some ⟨S, 0, none⟩) := cc.slot 1 39 (by kernel_rfl) rfl; simp only [execOp, Act.eval, e0]; go_simp, rfl⟩)
    | 3, _ => exact lstep_pure (AppR.refl _ 15) rfl (lwant_none rfl) (AppJ.pure (by decide)) (fun LL aa ww cc => ⟨.slice (some ⟨g1, 0, none⟩) n1 (c1 1), by have e0 : aa.tmps.getD 40 undef = .pointer (some ⟨S, 1, none⟩) := cc.slot 2 40 (by kernel_rfl) rfl; have q := C1.out _ cc.world.1; simp only [execOp, Act.eval, e0]; go_simp, rfl⟩)
    | 4, _ => exact lstep_first (AppR.refl _ 15) rfl (lwant_none rfl) (AppJ.pure (by decide)) 2 (Or.inl rfl) (by kernel_rfl) (fun _ => rfl)
    | 5, _ => exact lstep_first (AppR.refl _ 15) rfl (lwant_none rfl) (AppJ.pure (by decide)) 0 (Or.inl rfl) (by kernel_rfl) (fun _ => rfl)
    | 6, _ => exact lstep_pure (AppR.refl _ 15) rfl (lwant_none rfl) (AppJ.pure (by decide)) (fun LL aa ww cc => ⟨.pointer (some ⟨S, 0, none⟩), by have e0 : aa.tmps.getD 43 undef = .pointer (some ⟨S, 0, none⟩) := cc.slot 5 43 (by kernel_rfl) rfl; simp only [execOp, Act.eval, e0]; go_simp, rfl⟩)
    | 7, _ => exact lstep_pure (AppR.refl _ 15) rfl (lwant_none rfl) (AppJ.pure (by decide)) (fun LL aa ww cc => ⟨.pointer (some ⟨S, 1, none⟩), by have e0 : aa.tmps.getD 44 undef = .pointer (some ⟨S, 0, none⟩) := cc.slot 6 44 (by kernel_rfl) rfl; simp only [execOp, Act.eval, e0]; go_simp, rfl⟩)
    | 8, _ => exact lstep_pure (AppR.refl _ 15) rfl (lwant_none rfl) (AppJ.pure (by decide)) (fun LL aa ww cc => ⟨.slice (some ⟨g1, 0, none⟩) n1 (c1 1), by have e0 : aa.tmps.getD 45 undef = .pointer (some ⟨S, 1, none⟩) := cc.slot 7 45 (by kernel_rfl) rfl; have q := C1.out _ cc.world.1; simp only [execOp, Act.eval, e0]; go_simp, rfl⟩)
    | 9, _ => exact lstep_first (AppR.refl _ 15) rfl (lwant_none rfl) (AppJ.pure (by decide)) 2 (Or.inl rfl) (by kernel_rfl) (fun _ => rfl)
    | 10, _ => exact lstep_pure (AppR.refl _ 15) rfl (lwant_none rfl) (AppJ.pure (by decide)) (fun LL aa ww cc => ⟨.pointer (some ⟨g1, r * 5, none⟩), by have e0 : aa.tmps.getD 46 undef = .slice (some ⟨g1, 0, none⟩) n1 (c1 1) := cc.slot 8 46 (by kernel_rfl) rfl; have e1 : aa.tmps.getD 47 undef = .int .i64 (r : Int) := cc.slot 9 47 (by kernel_rfl) rfl; simp only [execOp, Act.eval, e0, e1]; go_simp, rfl⟩)
    | 11, _ => exact lstep_pure (AppR.refl _ 15) rfl (lwant_none rfl) (AppJ.pure (by decide)) (fun LL aa ww cc => ⟨.pointer (some ⟨g1, r * 5 + 3, none⟩), by have e0 : aa.tmps.getD 48 undef = .pointer (some ⟨g1, r * 5, none⟩) := cc.slot 10 48 (by kernel_rfl) rfl; simp only [execOp, Act.eval, e0]; go_simp, rfl⟩)
    | 12, _ => exact lstep_pure (AppR.refl _ 15) rfl (lwant_none rfl) (AppJ.pure (by decide)) (fun LL aa ww cc => ⟨.slice (A1 (3 + 2 * r)) lq (c1 (3 + 2 * r)), by have e0 : aa.tmps.getD 49 undef = .pointer (some ⟨g1, r * 5 + 3, none⟩) := cc.slot 11 49 (by kernel_rfl) rfl; have q := CQ.out _ cc.world.1; simp only [execOp, Act.eval, e0]; go_simp, rfl⟩)
    | 13, _ => exact lstep_first (AppR.refl _ 15) rfl (lwant_none rfl) (AppJ.pure (by decide)) 1 (Or.inl rfl) (by kernel_rfl) (fun _ => rfl)
    | 14, _ => exact lstep_build1 (by decide) rfl (lwant_none rfl) 51 rfl (.int .i64 (p : Int)) (fun w => build1_int w _) (fun LL aa ww cc => cc.slot 13 51 (by kernel_rfl) rfl) rfl
    | 15, _ => exact lstep_app1 Try.underlying28 Try.infoIt rfl (by decide) rfl (lwant_none rfl) 50 52 rfl (A1 (3 + 2 * r)) (c1 (3 + 2 * r)) lq (nums (P3.rsc r).q) (.int .i64 (p : Int)) rfl QR.out rfl (by omega) (fun LL aa ww cc => cc.slot 12 50 (by kernel_rfl) rfl) (fun LL aa ww cc => cc.slot 14 52 (by kernel_rfl) rfl) rfl
    | n + 16, h => exact absurd h (by show ¬ (n + 16 < 16); omega)
  · intro L9 VV w5 hall hlen hJ5 hok
    match VV, hlen with
    | [v0, v1, v2, v3, v4, v5, v6, v7, v8, v9, v10, v11, v12, v13, v14, v15], _ =>
      obtain rfl : v0 = .pointer (some ⟨S, 0, none⟩) := hok 0 38 rfl
      obtain rfl : v1 = .pointer (some ⟨S, 0, none⟩) := hok 1 39 rfl
      obtain rfl : v2 = .pointer (some ⟨S, 1, none⟩) := hok 2 40 rfl
      obtain rfl : v3 = .slice (some ⟨g1, 0, none⟩) n1 (c1 1) := hok 3 41 rfl
      obtain rfl : v4 = .int .i64 (r : Int) := hok 4 42 rfl
      obtain rfl : v5 = .pointer (some ⟨S, 0, none⟩) := hok 5 43 rfl
      obtain rfl : v6 = .pointer (some ⟨S, 0, none⟩) := hok 6 44 rfl
      obtain rfl : v7 = .pointer (some ⟨S, 1, none⟩) := hok 7 45 rfl
      obtain rfl : v8 = .slice (some ⟨g1, 0, none⟩) n1 (c1 1) := hok 8 46 rfl
      obtain rfl : v9 = .int .i64 (r : Int) := hok 9 47 rfl
      obtain rfl : v10 = .pointer (some ⟨g1, r * 5, none⟩) := hok 10 48 rfl
      obtain rfl : v11 = .pointer (some ⟨g1, r * 5 + 3, none⟩) := hok 11 49 rfl
      obtain rfl : v12 = .slice (A1 (3 + 2 * r)) lq (c1 (3 + 2 * r)) := hok 12 50 rfl
      obtain rfl : v13 = .int .i64 (p : Int) := hok 13 51 rfl
      have p14 := hok 14 52 rfl
      have p15 := hok 15 53 rfl
      have p15' : Apped w6 3 (A1 (3 + 2 * r)) lq (nums (P3.rsc r).q) (.int .i64 (p : Int)) v15 w5 := p15
      obtain ⟨A2, c2, rfl, hrow, hnb⟩ := p15'
      have hgr := hJ5.1
      have HROW2 : Hid (Row w5 3 1 A2 c2 ((P3.rsc r).q ++ [p]).length (nums ((P3.rsc r).q ++ [p]))) := Lib.hid (by
        rw [show ((P3.rsc r).q ++ [p]).length = lq + 1 by simp [HLQ.out], show nums ((P3.rsc r).q ++ [p]) = nums (P3.rsc r).q ++ [.int .i64 (p : Int)] by simp [nums]]
        exact hrow)
      have HGR : Hid (w6.grownBy w5 ((A1 (3 + 2 * r)).map (·.block))) := Lib.hid hgr
      have HNB : Hid (NewB w6 (A1 (3 + 2 * r)) A2) := Lib.hid hnb
      have HL1 : Hid (lq + 1 = ((P3.rsc r).q ++ [p]).length) := Lib.hid (by simp [HLQ.out])
      clear p14 p15 hrow hnb hgr hJ5 hok hall C1 CQ QR HROW HLQ
      simp only [List.zip_cons_cons, List.zip_nil_right, putsL]
      go_simp
      go_wp2_with ((with_reducible show wpList _ _ _ (Oper.mk _ (Op.store _ _ _) _ _ _ _ :: _) _ _); refine wpList_storeQ rfl 28 _ _ rfl H6 HF6 HR3.out HA1 HL1.out HROW2 HGR HNB rfl rfl s1Ints ?_)
      intro w7 H7 HF7
      have BX7 : Hid (Blk w7 b [.int .i64 0, .int .i64 0, .bool false]) := Lib.hid (HF7.out.blk HBX1.out HNF.out)
      clear H6 HF6 HROW2 HGR HNB HL1
      go_wp2_with ((with_reducible show wpList _ _ _ (Oper.mk _ (Op.store 37 _ _) _ _ _ _ :: _) _ _); refine wpList_storeS sOut rfl _ _ rfl b [.int .i64 0, .int .i64 0, .bool false] (ocs ⟨0, 0, true⟩) rfl rfl BX7.out rfl rfl (ocs_one _) ?_)
      intro w8 hb8 hg8
      have l8 := Lib.hid (run_loadS sOut b _ hb8 rfl)
      have HRS : Hid (RetSet w S A (.agg (ocs ⟨0, 0, true⟩).toArray) (park P p r ticks item) (.returned (.agg (ocs ⟨0, 0, true⟩).toArray)) w8) := Lib.hid (by
        refine RetSet.of HG1.out HBE.out HF7.out hg8 (c' := upC c1 (3 + 2 * r) c2) ?_
        rw [HPK.out, ← HP3.out, ← HQE.out]
        exact H7.out.keepB hg8 (HF7.out.nf HNF.out HBL.out))
      clear hb8 hg8
      go_wp2
      exact bodyPost_ret (v := .agg (ocs ⟨0, 0, true⟩).toArray) (by simp [results, Try.results32, asAddr, Sem.run_bind, Sem.run_pure, l8.out]) rfl HRS.out
theorem wait_time (w : World) (S : Nat) (P : PSet) (A : Nat → Option Addr) (c : Nat → Nat) (h : SetM w S P A c) (hw : Wf P 999) (p : Nat) (hp : p < P.ps.length) (ticks item : Int) :
    Calls Try.prog 32 #[.pointer (some ⟨S, 0, none⟩), .int .i64 (p : Int), .int .i64 (-1), .int .i64 ticks, .int .i64 item] w (RetSet w S A (.agg #[.int .i64 0, .int .i64 0, .bool true]) (park P p (-1) ticks item)) := by
  have HPK := Lib.hid (park_time P p ticks item)
  have H := Lib.hid h
  have HW := Lib.hid hw
  have HP := Lib.hid hp
  clear h hw hp
  go_enter Try.func32, Try.ntmps32
  go_wp2_with ((with_reducible show wpList _ _ _ (Oper.mk _ (Op.alloc 37) _ _ _ _ :: _) _ _); refine wpList_allocS _ zOut rfl rfl ?_)
  intro w1 hbk hg1 hs1
  obtain ⟨b, hb⟩ : ∃ b, b = w.heap.size := ⟨_, rfl⟩
  rw [← hb] at hbk ⊢
  have HNF : Hid (¬ Foot S A b) := Lib.hid (H.out.notFoot (by rw [hb]; exact Nat.le_refl _))
  have HBL : Hid (b < w1.heap.size) := Lib.hid (by omega)
  have HB1 := Lib.hid hbk
  have HG1 := Lib.hid hg1
  have HBE : Hid (w.heap.size ≤ b) := Lib.hid (by omega)
  have H1 : Hid (SetM w1 S P A c) := Lib.hid (H.out.apart hg1 fun k e => by cases e)
  clear hbk hg1 hs1 hb H
  go_wp2_with fail
  refine (leave_calls _ S P A c H1.out ⟨HW.out.n, HW.out.m, by have := HW.out.rd; omega, fun r => by have := HW.out.q r; omega, HW.out.res⟩ p HP.out).mono ?_
  rintro e w2 ⟨rfl, A1, c1, h2, hf2⟩
  have HF2 := Lib.hid hf2
  have BX2 := Lib.hid (hf2.blk HB1.out HNF.out)
  have hp2 : p < (leave P p).ps.length := by rw [leave_n]; exact HP.out
  obtain ⟨g, hA, _⟩ := h2.pcell hp2
  obtain ⟨n, hn⟩ : ∃ n, n = (leave P p).ps.length := ⟨_, rfl⟩
  have c0 := h2.head0 hA hn
  have HP2 := Lib.hid hp2
  have hpn : p < n := by rw [hn]; exact hp2
  have hn8 : n ≤ 1000 := by rw [hn, leave_n]; exact HW.out.n
  have H2 := Lib.hid h2
  have HA := Lib.hid hA
  have HN := Lib.hid hn
  have HBX1 := HB1
  clear h2 hf2 hA hn hp2 HB1 H1 BX2
  go_wp2_with ((with_reducible show wpList _ _ _ (Oper.mk _ (Op.store _ _ _) _ _ _ _ :: _) _ _); refine wpList_storeP rfl 3 _ _ rfl H2 HF2 1 (.int .i64 2) (by first | exact HP2.out | (rw [ps_setP]; exact HP2.out)) HA (by decide) { (leave P p).proc p with st := 2 } (rfl) rfl rfl s1Int rfl ?_)
  intro w3 H3 HF3
  go_wp2_with ((with_reducible show wpList _ _ _ (Oper.mk _ (Op.store _ _ _) _ _ _ _ :: _) _ _); refine wpList_storeP rfl 3 _ _ rfl H3 HF3 5 (.int .i64 (-1)) (by first | exact HP2.out | (rw [ps_setP]; exact HP2.out)) HA (by decide) { (leave P p).proc p with st := 2, res := -1 } (by rw [proc_setP HP2.out]; rfl) rfl rfl s1Int rfl ?_)
  rw [setP_setP]
  intro w4 H4 HF4
  go_wp2_with ((with_reducible show wpList _ _ _ (Oper.mk _ (Op.store _ _ _) _ _ _ _ :: _) _ _); refine wpList_storeP rfl 3 _ _ rfl H4 HF4 6 (.int .i64 ticks) (by first | exact HP2.out | (rw [ps_setP]; exact HP2.out)) HA (by decide) { (leave P p).proc p with st := 2, res := -1, left := ticks } (by rw [proc_setP HP2.out]; rfl) rfl rfl s1Int rfl ?_)
  rw [setP_setP]
  intro w5 H5 HF5
  go_wp2_with ((with_reducible show wpList _ _ _ (Oper.mk _ (Op.store _ _ _) _ _ _ _ :: _) _ _); refine wpList_storeP rfl 2 _ _ rfl H5 HF5 7 (.int .i64 item) (by first | exact HP2.out | (rw [ps_setP]; exact HP2.out)) HA (by decide) { (leave P p).proc p with st := 2, res := -1, left := ticks, item := item } (by rw [proc_setP HP2.out]; rfl) rfl rfl s1I64 rfl ?_)
  rw [setP_setP]
  intro w6 H6 HF6
  clear H2 HF2 H3 HF3 H4 HF4 H5 HF5 c0
  have BX7 : Hid (Blk w6 b [.int .i64 0, .int .i64 0, .bool false]) := Lib.hid (HF6.out.blk HBX1.out HNF.out)
  go_wp2_with ((with_reducible show wpList _ _ _ (Oper.mk _ (Op.store 37 _ _) _ _ _ _ :: _) _ _); refine wpList_storeS sOut rfl _ _ rfl b [.int .i64 0, .int .i64 0, .bool false] (ocs ⟨0, 0, true⟩) rfl rfl BX7.out rfl rfl (ocs_one _) ?_)
  intro w8 hb8 hg8
  have l8 := Lib.hid (run_loadS sOut b _ hb8 rfl)
  have HRS : Hid (RetSet w S A (.agg (ocs ⟨0, 0, true⟩).toArray) (park P p (-1) ticks item) (.returned (.agg (ocs ⟨0, 0, true⟩).toArray)) w8) := Lib.hid (by
    refine RetSet.of HG1.out HBE.out HF6.out hg8 (c' := c1) ?_
    rw [HPK.out]
    exact H6.out.keepB hg8 (HF6.out.nf HNF.out HBL.out))
  clear hb8 hg8
  go_wp2
  exact bodyPost_ret (v := .agg (ocs ⟨0, 0, true⟩).toArray) (by simp [results, Try.results32, asAddr, Sem.run_bind, Sem.run_pure, l8.out]) rfl HRS.out
end Go.Proofs.Ytgeffkdobnipgaa
