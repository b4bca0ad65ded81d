/- Bundle 9 of the texts RefSs, RefSl, RefLo, RefTk, RelK, AppF, AppF2, RefTa. -/
import Derived.Test.YtgeffkdobnipgaaMg8
import Derived.Test.YtgeffkdobnipgaaMg3
import Derived.Test.YtgeffkdobnipgaaMg5
import Derived.Test.YtgeffkdobnipgaaMg1
/- The document's set: Start, Stop. -/
namespace Nac.Procs
variable {M M' : RSt} {b b' : Nat}
theorem RInv.of (h : RInv M b) (hb : b ≤ b') (hprs : M'.prs = M.prs) (hrs : M'.rs = M.rs) (hit : M'.items = M.items) (hl : M'.lasts.length = M.lasts.length) (hr : ∀ p ∈ M'.ready, p < M.prs.length) (hw : ∀ x ∈ M'.wts, x.p < M.prs.length) (rl : M'.ready.length ≤ 200 * b') (wl : M'.wts.length ≤ b') (lf : ∀ x ∈ M'.wts, -1000 ≤ x.left + b' ∧ x.left ≤ 1048576) : RInv M' b' :=
  ⟨by rw [hprs]; exact h.n1, by rw [hprs]; exact h.n8, by rw [hrs]; exact h.m8, by rw [hl, hprs]; exact h.nl, by rw [hit, hrs]; exact h.ni, by rw [hprs]; exact hr, by rw [hprs]; exact hw, rl, wl, lf, by rw [hrs]; exact h.cnt, by rw [hrs, hit]; exact h.it, by rw [hit]; exact h.il, by rw [hrs]; exact h.kd⟩
theorem RInv.next (h : RInv M b) : RInv M (b + 1) := h.of (Nat.le_succ b) rfl rfl rfl rfl h.rdy h.wp (by have := h.rl; omega) (by have := h.wl; omega) fun x hx => by have := h.lf x hx; omega
theorem forget_sub {l : List Wt} {p : Nat} {x : Wt} (h : x ∈ forgetL l p) : x ∈ l := (List.mem_filter.1 h).1
theorem forget_len (l : List Wt) (p : Nat) : (forgetL l p).length ≤ l.length := List.length_filter_le ..
theorem RInv.wakes (h : RInv M b) {p : Nat} (hp : p < M.prs.length) (o : Out) (hr : M.ready.length + 1 ≤ 200 * b) : RInv (wakesM M p o) b :=
  h.of (Nat.le_refl b) rfl rfl rfl (List.length_set ..) (fun q hq => by
    rcases List.mem_append.1 hq with h1 | h1
    · exact h.rdy q h1
    · simp at h1; subst h1; exact hp) (fun x hx => h.wp x (forget_sub hx)) (by show (M.ready ++ [p]).length ≤ _; simp; omega) (Nat.le_trans (forget_len _ _) h.wl) fun x hx => h.lf x (forget_sub hx)
theorem RInv.start (h : RInv M b) {p : Nat} (hp : p < M.prs.length) : RInv { M with ready := M.ready ++ [p] } (b + 1) :=
  h.of (Nat.le_succ b) rfl rfl rfl rfl (fun q hq => by
    rcases List.mem_append.1 hq with h1 | h1
    · exact h.rdy q h1
    · simp at h1; subst h1; exact hp) h.wp (by show (M.ready ++ [p]).length ≤ _; have := h.rl; simp; omega) (by have := h.wl; show M.wts.length ≤ _; omega) fun x hx => by have := h.lf x hx; omega
theorem without_sub {l : List Nat} {p q : Nat} (h : q ∈ without l p) : q ∈ l := (List.mem_filter.1 h).1
theorem RInv.stop (h : RInv M b) (p : Nat) : RInv { M with wts := forgetL M.wts p, ready := without M.ready p } (b + 1) :=
  h.of (Nat.le_succ b) rfl rfl rfl rfl (fun q hq => h.rdy q (without_sub hq)) (fun x hx => h.wp x (forget_sub hx)) (by show (without M.ready p).length ≤ _; have := h.rl; have := without_le M.ready p; omega) (by show (forgetL M.wts p).length ≤ _; have := h.wl; have := forget_len M.wts p; omega) fun x hx => by have := h.lf x (forget_sub hx); omega
theorem RInv.waits (h : RInv M b) {p : Nat} (hp : p < M.prs.length) (r ticks item : Int) (ht : 0 ≤ ticks ∧ ticks ≤ 1048576) : RInv (waitsM M p r ticks item) (b + 1) :=
  h.of (Nat.le_succ b) rfl rfl rfl rfl (fun q hq => h.rdy q (without_sub hq)) (fun x hx => by
    rcases List.mem_append.1 hx with h1 | h1
    · exact h.wp x h1
    · simp at h1; subst h1; exact hp) (by show (without M.ready p).length ≤ _; have := h.rl; have := without_le M.ready p; omega) (by show (M.wts ++ [_]).length ≤ _; have := h.wl; simp; omega) fun x hx => by
    rcases List.mem_append.1 hx with h1 | h1
    · have := h.lf x h1; omega
    · simp at h1; subst h1; exact ⟨by show -1000 ≤ ticks + _; omega, ht.2⟩
theorem RInv.yield (h : RInv M b) {p : Nat} (hp : p < M.prs.length) : RInv { M with ready := without M.ready p ++ [p] } (b + 1) :=
  h.of (Nat.le_succ b) rfl rfl rfl rfl (fun q hq => by
    rcases List.mem_append.1 hq with h1 | h1
    · exact h.rdy q (without_sub h1)
    · simp at h1; subst h1; exact hp) h.wp (by show (without M.ready p ++ [p]).length ≤ _; have := h.rl; have := without_le M.ready p; simp; omega) (by have := h.wl; show M.wts.length ≤ _; omega) fun x hx => by have := h.lf x hx; omega
end Nac.Procs
namespace Go.Proofs.Ytgeffkdobnipgaa
open Go.RowKit Nac Nac.Procs
def isI (v : Value) : Prop := ∃ z : Int, v = .int .i64 z
def isO (v : Value) : Prop := ∃ u : Out, v = .agg (ocs u).toArray
def RetRI (w : World) (R : Nat) (A : Nat → Option Addr) (b : Nat) (is : Value → Prop) (e : Ending) (w' : World) : Prop := ∃ v M', e = .returned v ∧ is v ∧ RetRef w R A M' w' ∧ RInv M' (b + 1)
set_option maxRecDepth 100000 in
set_option maxHeartbeats 1000000 in
theorem rstart_calls (w : World) (R : Nat) (M : RSt) (A : Nat → Option Addr) (c : Nat → Nat) (h : RefM w R M A c) (b : Nat) (hI : RInv M b) (hb : b ≤ 100) (p : Int) :
    Calls Try.prog 39 #[.pointer (some ⟨R, 0, none⟩), .int .i64 p] w (RetRI w R A b isI) := by
  obtain ⟨n, hn⟩ : ∃ n, n = M.prs.length := ⟨_, rfl⟩
  have c0 : w.cell? ⟨R, 0, none⟩ = some (.slice (A 0) n (c 0)) := by rw [hn]; exact Mem.head h (by decide)
  have hn8 : n ≤ 8 := by rw [hn]; exact hI.n8
  have H := Lib.hid h
  have HI := Lib.hid hI
  have HBB := Lib.hid hb
  have HN := Lib.hid hn
  have HSAME : Hid (RetRef w R A M w ∧ RInv M (b + 1)) := Lib.hid ⟨⟨A, c, h, FrS.refl R A w⟩, hI.next⟩
  clear h hI hb hn
  by_cases hp0 : p < 0
  · go_enter Try.func39, Try.ntmps39
    go_wp2
    go_ret
    exact ⟨_, M, rfl, ⟨4, rfl⟩, HSAME.out.1, HSAME.out.2⟩
  by_cases hpn : (n : Int) ≤ p
  · go_enter Try.func39, Try.ntmps39
    go_wp2
    go_ret
    exact ⟨_, M, rfl, ⟨4, rfl⟩, HSAME.out.1, HSAME.out.2⟩
  obtain ⟨k, rfl⟩ : ∃ k : Nat, p = k := ⟨p.toNat, by omega⟩
  have hkn : k < n := by omega
  have HKN : Hid (k < M.prs.length) := Lib.hid (by rw [← HN.out]; exact hkn)
  go_enter Try.func39, Try.ntmps39
  go_wp2_with fail
  refine (rstate_calls w R M A c H.out b HI.out HBB.out k).mono ?_
  rintro e w1 ⟨z, rfl, rfl⟩
  by_cases hz : z = 0
  · subst hz
    obtain ⟨n2, hn2⟩ : ∃ n2, n2 = M.ready.length := ⟨_, rfl⟩
    have hn28 : n2 ≤ 100000 := by rw [hn2]; have := HI.out.rl; have := HBB.out; omega
    have cr : w.cell? ⟨R, 2, none⟩ = some (.slice (A 2) n2 (c 2)) := by rw [hn2]; exact Mem.head H.out (by decide)
    have HR0 : Hid (Row (w.alloc (.cells #[.int .i64 (k : Int)] 3)) 3 1 (A 2) (c 2) n2 (nums M.ready)) := Lib.hid (by rw [hn2]; exact (Mem.row H.out 2).below ((Below.refl _ _).alloc (Nat.le_refl _) _))
    have HS0 : Hid ((w.alloc (.cells #[.int .i64 (k : Int)] 3)).cell? ⟨w.heap.size, 0, none⟩ = some (.int .i64 (k : Int))) := Lib.hid (by rw [World.cell?_alloc_at _ _ _ _ rfl]; rfl)
    have HN2 := Lib.hid hn2
    have HF := Lib.hid (FrS.refl R A w)
    clear hn2
    go_wp2_with (at_builtin; refine wpList_app_row Try.underlying28 Try.infoIt rfl (by decide) _ rfl _ _ rfl (A 2) (c 2) n2 (nums M.ready) rfl HR0.out w.heap.size _ (.int .i64 (k : Int)) rfl rfl HS0.out (by omega) ?_)
    intro A7 c7 w7 hr7 hg7 hnb7
    have hba : Below w.heap.size w (w.alloc (.cells #[.int .i64 (k : Int)] 3)) := (Below.refl _ _).alloc (Nat.le_refl _) _
    have HG7 : Hid (w.grownBy w7 ((A 2).map (·.block))) := Lib.hid ⟨hg7.os, hg7.tape, hg7.output, Nat.le_trans hba.size hg7.size, fun k hk hne => (hg7.block k (Nat.lt_of_lt_of_le hk hba.size) hne).trans (hba.block k hk)⟩
    have HNB7 : Hid (NewB w (A 2) A7) := Lib.hid (by
      rcases hnb7 with e | e
      · exact .inl e
      · exact .inr fun g hg => Nat.le_trans hba.size (e g hg))
    have HL7 : Hid (n2 + 1 = (M.ready ++ [k]).length) := Lib.hid (by simp [HN2.out])
    have HR7 : Hid (Row w7 3 1 A7 c7 (M.ready ++ [k]).length (nums (M.ready ++ [k]))) := Lib.hid (by rw [← HL7.out, show nums (M.ready ++ [k]) = nums M.ready ++ [.int .i64 (k : Int)] by simp [nums]]; exact hr7)
    clear hr7 hg7 hnb7 hba HR0 HS0 cr c0
    go_wp2_with ((with_reducible show wpList _ _ _ (Oper.mk _ (Op.store _ _ _) _ _ _ _ :: _) _ _); refine wpList_rready rfl 28 _ _ rfl H HF HL7.out HR7 HG7 HNB7 rfl rfl s1Ints ?_)
    intro w8 H8 HF8 _
    have HRES : Hid (RetRef w R A { M with ready := M.ready ++ [k] } w8 ∧ RInv { M with ready := M.ready ++ [k] } (b + 1)) := Lib.hid ⟨⟨_, _, H8.out, HF8.out⟩, HI.out.start HKN.out⟩
    clear H HF HL7 HR7 HG7 HNB7 H8 HF8
    go_wp2
    go_ret
    exact ⟨_, _, rfl, ⟨0, rfl⟩, HRES.out.1, HRES.out.2⟩
  · have hz1 : (z != 0) = true := by simpa using hz
    have hz2 : (z == 0) = false := by simpa using hz
    clear hz
    go_wp2
    go_ret
    exact ⟨_, M, rfl, ⟨1, rfl⟩, HSAME.out.1, HSAME.out.2⟩
set_option maxRecDepth 100000 in
set_option maxHeartbeats 1000000 in
theorem rstop_calls (w : World) (R : Nat) (M : RSt) (A : Nat → Option Addr) (c : Nat → Nat) (h : RefM w R M A c) (b : Nat) (hI : RInv M b) (hb : b ≤ 100) (p : Int) :
    Calls Try.prog 40 #[.pointer (some ⟨R, 0, none⟩), .int .i64 p] w (RetRI w R A b isI) := by
  obtain ⟨n, hn⟩ : ∃ n, n = M.prs.length := ⟨_, rfl⟩
  have c0 : w.cell? ⟨R, 0, none⟩ = some (.slice (A 0) n (c 0)) := by rw [hn]; exact Mem.head h (by decide)
  have hn8 : n ≤ 8 := by rw [hn]; exact hI.n8
  have H := Lib.hid h
  have HI := Lib.hid hI
  have HBB := Lib.hid hb
  have HN := Lib.hid hn
  have HSAME : Hid (RetRef w R A M w ∧ RInv M (b + 1)) := Lib.hid ⟨⟨A, c, h, FrS.refl R A w⟩, hI.next⟩
  clear h hI hb hn
  by_cases hp0 : p < 0
  · go_enter Try.func40, Try.ntmps40
    go_wp2
    go_ret
    exact ⟨_, M, rfl, ⟨4, rfl⟩, HSAME.out.1, HSAME.out.2⟩
  by_cases hpn : (n : Int) ≤ p
  · go_enter Try.func40, Try.ntmps40
    go_wp2
    go_ret
    exact ⟨_, M, rfl, ⟨4, rfl⟩, HSAME.out.1, HSAME.out.2⟩
  obtain ⟨k, rfl⟩ : ∃ k : Nat, p = k := ⟨p.toNat, by omega⟩
  have hkn : k < n := by omega
  go_enter Try.func40, Try.ntmps40
  go_wp2_with fail
  refine (rstate_calls w R M A c H.out b HI.out HBB.out k).mono ?_
  rintro e w1 ⟨z, rfl, rfl⟩
  by_cases hz : z = 0
  · subst hz
    go_wp2
    go_ret
    exact ⟨_, M, rfl, ⟨6, rfl⟩, HSAME.out.1, HSAME.out.2⟩
  · have hz1 : (z != 0) = true := by simpa using hz
    have hz2 : (z == 0) = false := by simpa using hz
    clear hz c0
    go_wp2_with fail
    refine (forget_calls w R M A c H.out b HI.out HBB.out k).mono ?_
    rintro e w2 ⟨x, rfl, A2, c2, h2, hf2⟩
    obtain ⟨M2, hM2⟩ : ∃ X, X = ({ M with wts := forgetL M.wts k } : RSt) := ⟨_, rfl⟩
    rw [← hM2] at h2
    have hre : M2.ready = M.ready := by rw [hM2]
    obtain ⟨n2, hn2⟩ : ∃ n2, n2 = M2.ready.length := ⟨_, rfl⟩
    have hn28 : n2 ≤ 100000 := by rw [hn2, hre]; have := HI.out.rl; have := HBB.out; omega
    have cr : w2.cell? ⟨R, 2, none⟩ = some (.slice (A2 2) n2 (c2 2)) := by rw [hn2]; exact Mem.head h2 (by decide)
    have H2 := Lib.hid h2
    have HF2 := Lib.hid hf2
    have HN2 := Lib.hid hn2
    have HM2 := Lib.hid hM2
    clear h2 hf2 hn2 hM2 hre
    go_wp2_with fail
    refine (rwithout_calls w2 (A2 2) (c2 2) M2.ready n2 HN2.out (Mem.row H2.out 2) hn28 k).mono ?_
    rintro e w3 ⟨A3, c3, rfl, hfl⟩
    have H3 : Hid (RefM w3 R M2 A2 c2) := Lib.hid (Mem.below H2.out hfl.below)
    have HF3 : Hid (FrS R A w A2 w3) := Lib.hid (HF2.out.trans (FrS.below hfl.below))
    have HR3 : Hid (Row w3 3 1 A3 c3 (without M2.ready k).length (nums (without M2.ready k))) := Lib.hid hfl.row
    have HNF3 : Hid (∀ g, A3.map (·.block) = some g → ¬ Foot R A2 g ∧ w.heap.size ≤ g) := Lib.hid fun g hg => ⟨Mem.notFoot H2.out (hfl.fresh g hg), Nat.le_trans HF2.out.size (hfl.fresh g hg)⟩
    obtain ⟨m, hm⟩ : ∃ m, m = (without M2.ready k).length := ⟨_, rfl⟩
    rw [← hm]
    have HM := Lib.hid hm
    clear hfl hm cr
    go_wp2_with ((with_reducible show wpList _ _ _ (Oper.mk _ (Op.store _ _ _) _ _ _ _ :: _) _ _); refine wpList_rready2 rfl 28 _ _ rfl H3 HF3 HM.out HR3 HNF3 rfl rfl s1Ints ?_)
    intro w4 H4 HF4 _
    have HRES : Hid (RetRef w R A { M with wts := forgetL M.wts k, ready := without M.ready k } w4 ∧ RInv { M with wts := forgetL M.wts k, ready := without M.ready k } (b + 1)) := Lib.hid ⟨⟨_, _, by have h5 := H4.out; rw [HM2.out] at h5; exact h5, HF4.out⟩, HI.out.stop k⟩
    clear H H2 HF2 H3 HF3 HR3 HNF3 H4 HF4
    go_wp2
    go_ret
    exact ⟨_, _, rfl, ⟨0, rfl⟩, HRES.out.1, HRES.out.2⟩
end Go.Proofs.Ytgeffkdobnipgaa
/- The document's set: Sleep, Lower. -/
namespace Nac.Procs
theorem asked_ok {M : RSt} {b : Nat} (hI : RInv M b) {res : Bool} {r ticks : Int} (h : askedI M res r ticks = 0) : (∃ p : Nat, rrun M = p ∧ p < M.prs.length) ∧ (res = true → 0 ≤ r ∧ r < M.rs.length) ∧ 0 ≤ ticks ∧ ticks ≤ 1048576 := by
  unfold askedI at h
  by_cases h1 : rrun M < 0
  · rw [if_pos h1] at h; omega
  rw [if_neg h1] at h
  by_cases h2 : res = true ∧ (r < 0 ∨ (M.rs.length : Int) ≤ r)
  · rw [if_pos h2] at h; omega
  rw [if_neg h2] at h
  cases hb : badT ticks with
  | true => rw [hb] at h; simp at h
  | false =>
    refine ⟨?_, fun e => ?_, ?_⟩
    · rcases rbest_lt M.prs M.prs.length M.ready hI.rdy with h3 | h3
      · exact absurd (show rrun M < 0 by unfold rrun; omega) h1
      · exact h3
    · constructor
      · apply Classical.byContradiction; intro h4; exact h2 ⟨e, .inl (by omega)⟩
      · apply Classical.byContradiction; intro h4; exact h2 ⟨e, .inr (by omega)⟩
    · unfold badT at hb; simp at hb; exact hb
end Nac.Procs
namespace Go.Proofs.Ytgeffkdobnipgaa
open Go.RowKit Nac Nac.Procs
theorem RetRI.of {w w' : World} {R : Nat} {A : Nat → Option Addr} {b : Nat} {u : Out} {M' : RSt} {e : Ending} (h : RetOut w R A u M' e w') (hI : RInv M' (b + 1)) : RetRI w R A b isO e w' := ⟨_, M', h.1, ⟨u, rfl⟩, h.2, hI⟩
set_option maxRecDepth 100000 in
set_option maxHeartbeats 1000000 in
theorem rsleep_calls (w : World) (R : Nat) (M : RSt) (A : Nat → Option Addr) (c : Nat → Nat) (h : RefM w R M A c) (b : Nat) (hI : RInv M b) (hb : b ≤ 100) (ticks : Int) :
    Calls Try.prog 41 #[.pointer (some ⟨R, 0, none⟩), .int .i64 ticks] w (RetRI w R A b isO) := by
  have H := Lib.hid h
  have HI := Lib.hid hI
  have HBB := Lib.hid hb
  clear h hI hb
  obtain ⟨ea, hea⟩ : ∃ ea, ea = askedI M false 0 ticks := ⟨_, rfl⟩
  have HEA := Lib.hid hea
  clear hea
  go_enter Try.func41, Try.ntmps41
  go_wp2_with ((with_reducible show wpList _ _ _ (Oper.mk _ (Op.alloc 37) _ _ _ _ :: _) _ _); refine wpList_allocS _ zOut rfl rfl ?_)
  intro w1 hbk hg1 hs1
  obtain ⟨b8, hb8⟩ : ∃ b, b = w.heap.size := ⟨_, rfl⟩
  rw [← hb8] at hbk ⊢
  have HNF : Hid (¬ Foot R A b8) := Lib.hid (Mem.notFoot H.out (by omega))
  have HBL : Hid (b8 < w1.heap.size) := Lib.hid (by omega)
  have HB1 := Lib.hid hbk
  have HG1 := Lib.hid hg1
  have HBE : Hid (w.heap.size ≤ b8) := Lib.hid (by omega)
  have H1 : Hid (RefM w1 R M A c) := Lib.hid (Mem.apart H.out hg1 fun k e => by cases e)
  clear hbk hg1 hs1 hb8 H
  go_wp2_with fail
  refine (asked_calls w1 R M A c H1.out b HI.out HBB.out false 0 ticks).mono ?_
  rintro e w2 ⟨rfl, d, hw2⟩
  have H2 : Hid (RefM w2 R M A c) := Lib.hid (by rw [hw2]; exact H1.out.drewN d)
  have HF2 : Hid (FrS R A w1 A w2) := Lib.hid (by rw [hw2]; exact (FrS.refl R A w1).drewN d)
  rw [← HEA.out]
  clear hw2 H1
  by_cases he : ea = 0
  · obtain ⟨⟨p, hrun, hpn⟩, _, ht0, ht1⟩ := asked_ok HI.out (HEA.out.symm.trans he)
    have HRUN := Lib.hid hrun
    have HPN := Lib.hid hpn
    subst he
    clear hrun hpn
    by_cases ht : ticks = 0
    · subst ht
      go_wp2_with fail
      refine (rrunning_calls w2 R M A c H2.out b HI.out HBB.out).mono ?_
      rintro e w3 ⟨rfl, d3, hw3⟩
      have H3 : Hid (RefM w3 R M A c) := Lib.hid (by rw [hw3]; exact H2.out.drewN d3)
      have HF3 : Hid (FrS R A w1 A w3) := Lib.hid (by rw [hw3]; exact HF2.out.drewN d3)
      rw [HRUN.out]
      obtain ⟨n, hn⟩ : ∃ n, n = M.ready.length := ⟨_, rfl⟩
      have cr : w3.cell? ⟨R, 2, none⟩ = some (.slice (A 2) n (c 2)) := by rw [hn]; exact Mem.head H3.out (by decide)
      have hn8 : n ≤ 100000 := by have := HI.out.rl; have := HBB.out; omega
      have HN := Lib.hid hn
      clear hw3 hn H2 HF2
      go_wp2_with fail
      refine (rwithout_calls w3 (A 2) (c 2) M.ready n HN.out (Mem.row H3.out 2) hn8 p).mono ?_
      rintro e w4 ⟨A4, c4, rfl, hfl⟩
      have H4 : Hid (RefM w4 R M A c) := Lib.hid (Mem.below H3.out hfl.below)
      have HF4 : Hid (FrS R A w1 A w4) := Lib.hid (HF3.out.trans (FrS.below hfl.below))
      have HFL := Lib.hid hfl
      obtain ⟨m, hm⟩ : ∃ m, m = (without M.ready p).length := ⟨_, rfl⟩
      rw [← hm]
      have HM := Lib.hid hm
      have hm8 : m ≤ 100000 := by rw [hm]; have := without_le M.ready p; have := HN.out; omega
      have HR0 : Hid (Row (w4.alloc (.cells #[.int .i64 (p : Int)] 3)) 3 1 A4 c4 m (nums (without M.ready p))) := Lib.hid (by rw [hm]; exact hfl.row.below ((Below.refl _ _).alloc (Nat.le_refl _) _))
      have HS0 : Hid ((w4.alloc (.cells #[.int .i64 (p : Int)] 3)).cell? ⟨w4.heap.size, 0, none⟩ = some (.int .i64 (p : Int))) := Lib.hid (by rw [World.cell?_alloc_at _ _ _ _ rfl]; rfl)
      clear hfl hm cr
      go_wp2_with (at_builtin; refine wpList_app_row Try.underlying28 Try.infoIt rfl (by decide) _ rfl _ _ rfl A4 c4 m (nums (without M.ready p)) rfl HR0.out w4.heap.size _ (.int .i64 (p : Int)) rfl rfl HS0.out (by omega) ?_)
      intro A5 c5 w5 hr5 hg5 hb5
      have hfl5 := HFL.out.app HM.out hr5 hg5 hb5
      have HFL5 := Lib.hid hfl5
      have H5 : Hid (RefM w5 R M A c) := Lib.hid (Mem.below H3.out hfl5.below)
      have HF5 : Hid (FrS R A w1 A w5) := Lib.hid (HF3.out.trans (FrS.below hfl5.below))
      have HR5 : Hid (Row w5 3 1 A5 c5 (without M.ready p ++ [p]).length (nums (without M.ready p ++ [p]))) := Lib.hid hfl5.row
      have HNF5 : Hid (∀ g, A5.map (·.block) = some g → ¬ Foot R A g ∧ w1.heap.size ≤ g) := Lib.hid fun g hg => ⟨Mem.notFoot H3.out (hfl5.fresh g hg), Nat.le_trans HF3.out.size (hfl5.fresh g hg)⟩
      have HM5 : Hid (m + 1 = (without M.ready p ++ [p]).length) := Lib.hid (by simp [HM.out])
      clear hr5 hg5 hb5 hfl5 HR0 HS0 H4 HF4
      go_wp2_with ((with_reducible show wpList _ _ _ (Oper.mk _ (Op.store _ _ _) _ _ _ _ :: _) _ _); refine wpList_rready2 rfl 28 _ _ rfl H5 HF5 HM5.out HR5 HNF5 rfl rfl s1Ints ?_)
      intro w6 H6 HF6 _
      have HBZ : Hid (Blk w6 b8 [.int .i64 0, .int .i64 0, .bool false]) := Lib.hid (HF6.out.blk HB1.out HNF.out)
      have HI6 := Lib.hid (HI.out.yield HPN.out)
      clear H5 HF5 HR5 HNF5 HM5 H3 HF3 HFL HFL5
      go_wp2_with ((with_reducible show wpList _ _ _ (Oper.mk _ (Op.store 37 _ _) _ _ _ _ :: _) _ _); refine wpList_storeS sOut rfl _ _ rfl b8 [.int .i64 0, .int .i64 0, .bool false] (ocs ok) rfl rfl HBZ.out rfl rfl (ocs_one _) ?_)
      intro w8 hb8 hg8
      have l8 := Lib.hid (run_loadS sOut b8 _ hb8 rfl)
      have HRS := Lib.hid (RetRI.of (RetOut.fin (u := ok) HG1.out HBE.out HNF.out HBL.out HF6.out H6.out hg8) HI6.out)
      clear hb8 hg8
      go_wp2
      exact bodyPost_ret (v := .agg (ocs ok).toArray) (by simp [results, Try.results41, asAddr, Sem.run_bind, Sem.run_pure, l8.out]) rfl HRS.out
    · have ht2 : (ticks == 0) = false := by simpa using ht
      have ht3 : (ticks != 0) = true := by simpa using ht
      clear ht
      go_wp2_with fail
      refine (rwaits_calls w2 R M A c H2.out b HI.out HBB.out p HRUN.out (-1) ticks 0).mono ?_
      rintro e w6 ⟨rfl, A6, c6, h6, hf6⟩
      have H6 := Lib.hid h6
      have HF6 := Lib.hid (HF2.out.trans hf6)
      have HBZ : Hid (Blk w6 b8 [.int .i64 0, .int .i64 0, .bool false]) := Lib.hid (HF6.out.blk HB1.out HNF.out)
      have HI6 := Lib.hid (HI.out.waits HPN.out (-1) ticks 0 ⟨ht0, ht1⟩)
      clear h6 hf6 H2 HF2
      go_wp2_with ((with_reducible show wpList _ _ _ (Oper.mk _ (Op.store 37 _ _) _ _ _ _ :: _) _ _); refine wpList_storeS sOut rfl _ _ rfl b8 [.int .i64 0, .int .i64 0, .bool false] (ocs waits) rfl rfl HBZ.out rfl rfl (ocs_one _) ?_)
      intro w8 hb8 hg8
      have l8 := Lib.hid (run_loadS sOut b8 _ hb8 rfl)
      have HRS := Lib.hid (RetRI.of (RetOut.fin (u := waits) HG1.out HBE.out HNF.out HBL.out HF6.out H6.out hg8) HI6.out)
      clear hb8 hg8
      go_wp2
      exact bodyPost_ret (v := .agg (ocs waits).toArray) (by simp [results, Try.results41, asAddr, Sem.run_bind, Sem.run_pure, l8.out]) rfl HRS.out
  · have he1 : (ea != 0) = true := by simpa using he
    have he2 : (ea == 0) = false := by simpa using he
    have HBZ : Hid (Blk w2 b8 [.int .i64 0, .int .i64 0, .bool false]) := Lib.hid (HF2.out.blk HB1.out HNF.out)
    have HI6 := Lib.hid HI.out.next
    clear he
    go_wp2_with ((with_reducible show wpList _ _ _ (Oper.mk _ (Op.store 37 _ _) _ _ _ _ :: _) _ _); refine wpList_storeS sOut rfl _ _ rfl b8 [.int .i64 0, .int .i64 0, .bool false] (ocs (errO ea)) rfl rfl HBZ.out rfl rfl (ocs_one _) ?_)
    intro w8 hb8 hg8
    have l8 := Lib.hid (run_loadS sOut b8 _ hb8 rfl)
    have HRS := Lib.hid (RetRI.of (RetOut.fin (u := errO ea) HG1.out HBE.out HNF.out HBL.out HF2.out H2.out hg8) HI6.out)
    clear hb8 hg8
    go_wp2
    exact bodyPost_ret (v := .agg (ocs (errO ea)).toArray) (by simp [results, Try.results41, asAddr, Sem.run_bind, Sem.run_pure, l8.out]) rfl HRS.out
end Go.Proofs.Ytgeffkdobnipgaa
/- The document's set: a count; Lower. -/
namespace Nac.Procs
def RSt.res (M : RSt) (r : Nat) : RIn := M.rs.getD r default
def RSt.its (M : RSt) (r : Nat) : List Int := M.items.getD r []
def cntM (M : RSt) (r : Nat) (z : Int) : RSt := { M with rs := M.rs.set r { M.res r with count := z } }
variable {M : RSt} {b : Nat}
theorem res_set {r : Nat} (hr : r < M.rs.length) (y : RIn) : (M.rs.set r y).getD r default = y := by simp [List.getD, hr]
theorem res_set_ne {r i : Nat} (h : i ≠ r) (y : RIn) : (M.rs.set r y).getD i default = M.rs.getD i default := by simp [List.getD, List.getElem?_set_ne (Ne.symm h)]
theorem its_set {r : Nat} (hr : r < M.items.length) (y : List Int) : (M.items.set r y).getD r [] = y := by simp [List.getD, hr]
theorem its_set_ne {r i : Nat} (h : i ≠ r) (y : List Int) : (M.items.set r y).getD i [] = M.items.getD i [] := by simp [List.getD, List.getElem?_set_ne (Ne.symm h)]
/-- a resource's count and items, anew -/
def ciM (M : RSt) (r : Nat) (z : Int) (l : List Int) : RSt := { M with rs := M.rs.set r { M.res r with count := z }, items := M.items.set r l }
theorem RInv.ci (h : RInv M b) {r : Nat} (hr : r < M.rs.length) {z : Int} {l : List Int} (hz : 0 ≤ z ∧ z ≤ (M.res r).most) (hk : (M.res r).kind = 2 → z = l.length) (hl : l.length ≤ 16) : RInv (ciM M r z l) b := by
  have hri : r < M.items.length := by rw [h.ni]; exact hr
  have hm : (ciM M r z l).rs.length = M.rs.length := List.length_set ..
  refine ⟨h.n1, h.n8, by rw [hm]; exact h.m8, h.nl, by rw [hm]; show (M.items.set r l).length = _; rw [List.length_set]; exact h.ni, h.rdy, h.wp, h.rl, h.wl, h.lf, fun i hi => ?_, fun i hi hk' => ?_, fun i => ?_, fun i hi => ?_⟩
  · rw [hm] at hi
    show 0 ≤ ((M.rs.set r _).getD i default).count ∧ ((M.rs.set r _).getD i default).count ≤ ((M.rs.set r _).getD i default).most ∧ ((M.rs.set r _).getD i default).most ≤ 16
    by_cases e : i = r
    · subst e
      rw [res_set hi]
      exact ⟨hz.1, hz.2, (h.cnt i hi).2.2⟩
    · rw [res_set_ne e]; exact h.cnt i hi
  · rw [hm] at hi
    have hk' : ((M.rs.set r { M.res r with count := z }).getD i default).kind = 2 := hk'
    show ((M.rs.set r { M.res r with count := z }).getD i default).count = ((M.items.set r l).getD i []).length
    by_cases e : i = r
    · subst e
      rw [res_set hi] at hk' ⊢
      rw [its_set hri]
      exact hk hk'
    · rw [res_set_ne e] at hk' ⊢
      rw [its_set_ne e]; exact h.it i hi hk'
  · show ((M.items.set r l).getD i []).length ≤ 16
    by_cases e : i = r
    · subst e; rw [its_set hri]; exact hl
    · rw [its_set_ne e]; exact h.il i
  · rw [hm] at hi
    show 0 ≤ ((M.rs.set r _).getD i default).kind ∧ ((M.rs.set r _).getD i default).kind ≤ 2 ∧ 1 ≤ ((M.rs.set r _).getD i default).most
    by_cases e : i = r
    · subst e
      rw [res_set hi]
      exact h.kd i hi
    · rw [res_set_ne e]; exact h.kd i hi
theorem set_self {l : List (List Int)} {r : Nat} : l.set r (l.getD r []) = l := by
  by_cases hr : r < l.length
  · rw [show l.getD r [] = l[r] by simp [List.getD, hr]]; exact List.set_getElem_self hr
  · exact List.set_eq_of_length_le (by omega)
theorem cnt_ci (M : RSt) (r : Nat) (z : Int) : cntM M r z = ciM M r z (M.its r) := by unfold ciM cntM RSt.its; rw [set_self]
theorem RInv.cntM (h : RInv M b) {r : Nat} (hr : r < M.rs.length) {z : Int} (hz : 0 ≤ z ∧ z ≤ (M.res r).most) (hk : (M.res r).kind = 2 → z = (M.its r).length) : RInv (cntM M r z) b := by
  rw [cnt_ci]
  exact h.ci hr hz hk (h.il r)
end Nac.Procs
namespace Go.Proofs.Ytgeffkdobnipgaa
open Go.RowKit Nac Nac.Procs
section
variable {w0 w w' : World} {R : Nat} {M : RSt} {A0 A : Nat → Option Addr} {c : Nat → Nat}
theorem RefM.at1r (h : RefM w R M A c) {r : Nat} (hr : r < M.rs.length) : ∃ g, A 1 = some ⟨g, 0, none⟩ ∧ (∀ f v, (rincells (M.res r))[f]? = some v → w.cell? ⟨g, r * 3 + f, none⟩ = some v) ∧ ∀ k, w.frozen? ⟨g, k, none⟩ = false := by
  have hro : Row w 30 3 (A 1) (c 1) M.rs.length (M.rs.map rincells).flatten := Mem.row h 1
  have hpl : r < (M.rs.map rincells).length := by simpa using hr
  obtain ⟨hj0, _⟩ := flat_get (rincells_len M.rs) (p := r) (f := 0) hpl (by decide)
  obtain ⟨g, hA, _, _, hf⟩ := hro.at hj0
  refine ⟨g, hA, fun f v hv => ?_, hf⟩
  have hf3 : f < 3 := by have := (List.getElem?_eq_some_iff.1 hv).1; simpa [rincells] using this
  obtain ⟨hj, he⟩ := flat_get (rincells_len M.rs) (p := r) (f := f) hpl hf3
  obtain ⟨g', hA', _, hc, _⟩ := hro.at hj
  rw [hA] at hA'
  injection hA' with e
  injection e with e
  subst e
  rw [hc, he]
  have e1 : (M.rs.map rincells)[r] = rincells (M.res r) := by simp [RSt.res, List.getD, hr]
  rw [← List.getElem?_eq_getElem (by rw [e1]; exact (List.getElem?_eq_some_iff.1 hv).1), e1]
  exact hv
theorem RefM.count (h : RefM w R M A c) {r : Nat} (hr : r < M.rs.length) {g : Nat} (hA : A 1 = some ⟨g, 0, none⟩) (z : Int) :
    RefM (w.setCell ⟨g, r * 3 + 1, none⟩ (.int .i64 z)) R (cntM M r z) A c ∧ FrS R A w A (w.setCell ⟨g, r * 3 + 1, none⟩ (.int .i64 z)) := by
  obtain ⟨h1, f1⟩ := Mem.setC h (j := 1) (by decide) hA (r * 3 + 1) (.int .i64 z)
  refine ⟨?_, f1⟩
  have hpl : r < (M.rs.map rincells).length := by simpa using hr
  have e1 : upL (rowsOf M A c) 1 ((rowsOf M A c 1).set (r * 3 + 1) (.int .i64 z)) = rowsOf (cntM M r z) A c := by
    funext j
    match j with
    | 1 =>
      rw [upL_same]
      show (M.rs.map rincells).flatten.set (r * 3 + 1) (.int .i64 z) = ((M.rs.set r { M.res r with count := z }).map rincells).flatten
      rw [flat_set (rincells_len M.rs) hpl (by decide) (.int .i64 z), List.map_set, show (M.rs.map rincells)[r] = rincells (M.res r) by simp [RSt.res, List.getD, hr]]
      rfl
    | 0 | 2 | 3 | 4 | 5 => rfl
    | i + 6 => rw [upL_ne _ _ (by omega)]; rfl
  have e2 : lensOf M = lensOf (cntM M r z) := by
    funext j
    match j with
    | 1 => exact (List.length_set ..).symm
    | 0 | 2 | 3 | 4 | 5 => rfl
    | i + 6 => rfl
  rw [e1, e2] at h1
  exact h1
theorem wpList_rcount {ops : Array Oper} {rest : List Oper} {o : Oper} {a : Act} {Q : Exit → Act → World → Prop} (hg : o.guard = none) (ty : TypeId) (x y : Operand) (hop : o.op = .store ty x y)
    (H : Hid (RefM w R M A c)) (HF : Hid (FrS R A0 w0 A w)) {r g : Nat} (z : Int) (hr : r < M.rs.length) (hA : Hid (A 1 = some ⟨g, 0, none⟩))
    (hx : a.eval x = .pointer (some ⟨g, r * 3 + 1, none⟩)) (hy : a.eval y = .int .i64 z) (hi : (Try.prog.info? ty).map (·.size) = some 1)
    (h : ∀ w', Hid (RefM w' R (cntM M r z) A c) → Hid (FrS R A0 w0 A w') → wpList Try.prog ops Q rest (a.put o.dst undef) w') : wpList Try.prog ops Q (o :: rest) a w := by
  obtain ⟨g', hA', hc, hf⟩ := H.out.at1r hr
  rw [hA.out] at hA'
  injection hA' with e
  injection e with e
  subst e
  have hl := H.out.count hr hA.out z
  refine wpList_store1 hg ty x y hop g (r * 3 + 1) (.int .i64 z) _ hx hy (hc 1 _ rfl) (hf _) hi rfl fun w' hw' => ?_
  rw [hw'.out]
  exact h _ (Lib.hid hl.1) (Lib.hid (HF.out.trans hl.2))
end
set_option maxRecDepth 100000 in
set_option maxHeartbeats 1000000 in
theorem rlower_calls (w : World) (R : Nat) (M : RSt) (A : Nat → Option Addr) (c : Nat → Nat) (h : RefM w R M A c) (b : Nat) (hI : RInv M b) (r : Int) :
    Calls Try.prog 45 #[.pointer (some ⟨R, 0, none⟩), .int .i64 r] w (RetRI w R A b isI) := by
  obtain ⟨m, hm⟩ : ∃ m, m = M.rs.length := ⟨_, rfl⟩
  have hm8 : m ≤ 8 := by rw [hm]; exact hI.m8
  have H := Lib.hid h
  have HI := Lib.hid hI
  have HM := Lib.hid hm
  have HSAME : Hid (RetRef w R A M w ∧ RInv M (b + 1)) := Lib.hid ⟨⟨A, c, h, FrS.refl R A w⟩, hI.next⟩
  clear h hI hm
  by_cases hp0 : r < 0
  · go_enter Try.func45, Try.ntmps45
    go_wp2
    go_ret
    exact ⟨_, M, rfl, ⟨4, rfl⟩, HSAME.out.1, HSAME.out.2⟩
  by_cases hpn : (m : Int) ≤ r
  · have c1 : w.cell? ⟨R, 1, none⟩ = some (.slice (A 1) m (c 1)) := by rw [HM.out]; exact Mem.head H.out (by decide)
    go_enter Try.func45, Try.ntmps45
    go_wp2
    go_ret
    exact ⟨_, M, rfl, ⟨4, rfl⟩, HSAME.out.1, HSAME.out.2⟩
  obtain ⟨k, rfl⟩ : ∃ k : Nat, r = k := ⟨r.toNat, by omega⟩
  have hkm : k < m := by omega
  have hk : k < M.rs.length := by rw [← HM.out]; exact hkm
  obtain ⟨g, hA, hc, _⟩ := H.out.at1r hk
  have c1 : w.cell? ⟨R, 1, none⟩ = some (.slice (some ⟨g, 0, none⟩) m (c 1)) := by rw [HM.out, ← hA]; exact Mem.head H.out (by decide)
  have ck : w.cell? ⟨g, k * 3, none⟩ = some (.int .i64 (M.res k).kind) := hc 0 _ rfl
  obtain ⟨ki, hki⟩ : ∃ x, x = (M.res k).kind := ⟨_, rfl⟩
  rw [← hki] at ck
  have HA := Lib.hid hA
  have HK := Lib.hid hk
  have HKI := Lib.hid hki
  clear hA hc hk hki
  by_cases h1 : ki = 1
  · subst h1
    have HF := Lib.hid (FrS.refl R A w)
    go_enter Try.func45, Try.ntmps45
    go_wp2_with ((with_reducible show wpList _ _ _ (Oper.mk _ (Op.store _ _ _) _ _ _ _ :: _) _ _); refine wpList_rcount rfl 3 _ _ rfl H HF 0 HK.out HA rfl rfl s1Int ?_)
    intro w4 H4 HF4
    have HRES : Hid (RetRef w R A (cntM M k 0) w4 ∧ RInv (cntM M k 0) (b + 1)) := Lib.hid ⟨⟨A, c, H4.out, HF4.out⟩, HI.out.next.cntM HK.out ⟨Int.le_refl _, by have := HI.out.cnt k HK.out; show 0 ≤ (M.rs.getD k default).most; omega⟩ (fun e => by rw [← HKI.out] at e; exact absurd e (by decide))⟩
    clear H HF H4 HF4 c1 ck
    go_wp2
    go_ret
    exact ⟨_, _, rfl, ⟨0, rfl⟩, HRES.out.1, HRES.out.2⟩
  · have h11 : (ki != 1) = true := by simpa using h1
    have h12 : (ki == 1) = false := by simpa using h1
    clear h1
    go_enter Try.func45, Try.ntmps45
    go_wp2
    go_ret
    exact ⟨_, M, rfl, ⟨1, rfl⟩, HSAME.out.1, HSAME.out.2⟩
end Go.Proofs.Ytgeffkdobnipgaa
/- The document's set: Tick. -/
namespace Nac.Procs
variable {M : RSt} {b : Nat}
/-- while the ticks that are left are taken down: k are -/
structure Ticking (M : RSt) (b k : Nat) (L : List Wt) : Prop where
  len : L.length = M.wts.length
  rest : ∀ i, k ≤ i → L.getD i default = M.wts.getD i default
  ok : ∀ x ∈ L, x.p < M.prs.length ∧ -1000 ≤ x.left + ((b + 1 : Nat) : Int) ∧ x.left ≤ 1048576
theorem Ticking.start (h : RInv M b) : Ticking M b 0 M.wts := ⟨rfl, fun _ _ => rfl, fun x hx => ⟨h.wp x hx, by have := (h.lf x hx).1; omega, (h.lf x hx).2⟩⟩
theorem Ticking.step {k : Nat} {L : List Wt} (h : Ticking M b k L) (hI : RInv M b) (hk : k < M.wts.length) : Ticking M b (k + 1) (L.set k { L.getD k default with left := (L.getD k default).left - 1 }) := by
  refine ⟨by rw [List.length_set]; exact h.len, fun i hi => ?_, fun x hx => ?_⟩
  · rw [← h.rest i (by omega)]
    simp [List.getD, List.getElem?_set_ne (show k ≠ i by omega)]
  · rcases List.mem_or_eq_of_mem_set hx with h1 | h1
    · exact h.ok x h1
    · subst h1
      have e := h.rest k (Nat.le_refl k)
      have hm : M.wts.getD k default ∈ M.wts := by rw [show M.wts.getD k default = M.wts[k] by simp [List.getD, hk]]; exact List.getElem_mem hk
      have h2 := hI.lf _ hm
      have h3 := hI.wp _ hm
      rw [e]
      exact ⟨h3, by show -1000 ≤ (M.wts.getD k default).left - 1 + _; omega, by show (M.wts.getD k default).left - 1 ≤ _; omega⟩
theorem Ticking.inv {k : Nat} {L : List Wt} (h : Ticking M b k L) (hI : RInv M b) : RInv { M with wts := L } (b + 1) :=
  hI.of (Nat.le_succ b) rfl rfl rfl rfl hI.rdy (fun x hx => (h.ok x hx).1) (by have := hI.rl; show M.ready.length ≤ _; omega) (by show L.length ≤ _; rw [h.len]; have := hI.wl; omega) fun x hx => (h.ok x hx).2
end Nac.Procs
namespace Go.Proofs.Ytgeffkdobnipgaa
open Go.RowKit Nac Nac.Procs
section
variable {w0 w w' : World} {R : Nat} {M : RSt} {A0 A : Nat → Option Addr} {c : Nat → Nat}
theorem RefM.left (h : RefM w R M A c) {k : Nat} (hk : k < M.wts.length) {g : Nat} (hA : A 3 = some ⟨g, 0, none⟩) (z : Int) :
    RefM (w.setCell ⟨g, k * 4 + 2, none⟩ (.int .i64 z)) R { M with wts := M.wts.set k { M.wts.getD k default with left := z } } A c ∧ FrS R A w A (w.setCell ⟨g, k * 4 + 2, none⟩ (.int .i64 z)) := by
  obtain ⟨h1, f1⟩ := Mem.setC h (j := 3) (by decide) hA (k * 4 + 2) (.int .i64 z)
  refine ⟨?_, f1⟩
  have hpl : k < (M.wts.map wcells).length := by simpa using hk
  have e1 : upL (rowsOf M A c) 3 ((rowsOf M A c 3).set (k * 4 + 2) (.int .i64 z)) = rowsOf { M with wts := M.wts.set k { M.wts.getD k default with left := z } } A c := by
    funext j
    match j with
    | 3 =>
      rw [upL_same]
      show (M.wts.map wcells).flatten.set (k * 4 + 2) (.int .i64 z) = ((M.wts.set k { M.wts.getD k default with left := z }).map wcells).flatten
      rw [flat_set (wcells_len M.wts) hpl (by decide) (.int .i64 z), List.map_set, show (M.wts.map wcells)[k] = wcells (M.wts.getD k default) by simp [List.getD, hk]]
      rfl
    | 0 | 1 | 2 | 4 | 5 => rfl
    | i + 6 => rw [upL_ne _ _ (by omega)]; rfl
  have e2 : lensOf M = lensOf { M with wts := M.wts.set k { M.wts.getD k default with left := z } } := by
    funext j
    match j with
    | 3 => exact (List.length_set ..).symm
    | 0 | 1 | 2 | 4 | 5 => rfl
    | i + 6 => rfl
  rw [e1, e2] at h1
  exact h1
theorem wpList_rleft {ops : Array Oper} {rest : List Oper} {o : Oper} {a : Act} {Q : Exit → Act → World → Prop} (hg : o.guard = none) (ty : TypeId) (x y : Operand) (hop : o.op = .store ty x y)
    (H : Hid (RefM w R M A c)) (HF : Hid (FrS R A0 w0 A w)) {k g : Nat} (z : Int) (hk : k < M.wts.length) (hA : Hid (A 3 = some ⟨g, 0, none⟩))
    (hx : a.eval x = .pointer (some ⟨g, k * 4 + 2, none⟩)) (hy : a.eval y = .int .i64 z) (hi : (Try.prog.info? ty).map (·.size) = some 1)
    (h : ∀ w', Hid (RefM w' R { M with wts := M.wts.set k { M.wts.getD k default with left := z } } A c) → Hid (FrS R A0 w0 A w') → wpList Try.prog ops Q rest (a.put o.dst undef) w') : wpList Try.prog ops Q (o :: rest) a w := by
  obtain ⟨g', hA', hc, hf⟩ := H.out.at3 hk
  rw [hA.out] at hA'
  injection hA' with e
  injection e with e
  subst e
  have hl := H.out.left hk hA.out z
  refine wpList_store1 hg ty x y hop g (k * 4 + 2) (.int .i64 z) _ hx hy (hc 2 _ rfl) (hf _) hi rfl fun w' hw' => ?_
  rw [hw'.out]
  exact h _ (Lib.hid hl.1) (Lib.hid (HF.out.trans hl.2))
end
def RTick (w : World) (R : Nat) (A : Nat → Option Addr) (n b k : Nat) (wr : World) : Prop := ∃ M' A' c', RefM wr R M' A' c' ∧ FrS R A w A' wr ∧ RInv M' (b + 1) ∧ M'.ready.length ≤ 200 * b + k ∧ M'.prs.length = n
set_option maxRecDepth 100000 in
set_option maxHeartbeats 2000000 in
theorem rtick_calls (w : World) (R : Nat) (M : RSt) (A : Nat → Option Addr) (c : Nat → Nat) (h : RefM w R M A c) (b : Nat) (hI : RInv M b) (hb : b < 100) :
    Calls Try.prog 46 #[.pointer (some ⟨R, 0, none⟩)] w (RetRI w R A b (fun v => v = .tuple #[])) := by
  obtain ⟨n3, hn3⟩ : ∃ n, n = M.wts.length := ⟨_, rfl⟩
  obtain ⟨n0, hn0⟩ : ∃ n, n = M.prs.length := ⟨_, rfl⟩
  have hn38 : n3 ≤ 100 := by have := hI.wl; omega
  have hn08 : n0 ≤ 8 := by rw [hn0]; exact hI.n8
  have H := Lib.hid h
  have HI := Lib.hid hI
  have HBB := Lib.hid hb
  have HN3 := Lib.hid hn3
  have HN0 := Lib.hid hn0
  have HT0 := Lib.hid (Ticking.start hI)
  have HF0 := Lib.hid (FrS.refl R A w)
  clear h hI hb hn3 hn0
  go_enter Try.func46, Try.ntmps46
  go_wp2
  go_loopw [2] (fun s2 wr => ∃ (k : Nat) (L : List Wt), k ≤ n3 ∧ s2 = .int .i64 (k : Int) ∧ Ticking M b k L ∧ RefM wr R { M with wts := L } A c ∧ FrS R A w A wr) (fun s2 _ => n3 - (intOf s2).toNat)
  case atStart => exact ⟨0, M.wts, Nat.zero_le _, rfl, HT0.out, H.out, HF0.out⟩
  case round =>
    obtain ⟨k, L, hk, rfl, htk, hm, hf⟩ := hrel
    have HTK := Lib.hid htk
    have HM := Lib.hid hm
    have HF := Lib.hid hf
    clear HT0 HF0 htk hm hf
    by_cases hlt : k < n3
    · have hkl : k < ({ M with wts := L } : RSt).wts.length := by show k < L.length; rw [HTK.out.len, ← HN3.out]; exact hlt
      obtain ⟨g3, hA3, hc3, _⟩ := HM.out.at3 hkl
      obtain ⟨z, hz⟩ : ∃ z, z = (L.getD k default).left := ⟨_, rfl⟩
      have hc2 : wr.cell? ⟨g3, k * 4 + 2, none⟩ = some (.int .i64 z) := by rw [hz]; exact hc3 2 _ rfl
      have c3 : wr.cell? ⟨R, 3, none⟩ = some (.slice (some ⟨g3, 0, none⟩) n3 (c 3)) := by rw [HN3.out, ← HTK.out.len, ← hA3]; exact Mem.head HM.out (by decide)
      have hzb : -2000 ≤ z ∧ z ≤ 1048576 := by
        have h1 := HTK.out.rest k (Nat.le_refl k)
        have hkm : k < M.wts.length := by rw [← HN3.out]; exact hlt
        have h2 := HI.out.lf (M.wts.getD k default) (by rw [show M.wts.getD k default = M.wts[k] by simp [List.getD, hkm]]; exact List.getElem_mem hkm)
        rw [hz, h1]
        have := HBB.out
        omega
      obtain ⟨hz1, hz2⟩ := hzb
      have HA3 := Lib.hid hA3
      have HKL := Lib.hid hkl
      have HZ := Lib.hid hz
      clear hA3 hkl hc3 hz
      go_wp2_with ((with_reducible show wpList _ _ _ (Oper.mk _ (Op.store _ _ _) _ _ _ _ :: _) _ _); refine wpList_rleft rfl 3 _ _ rfl HM HF (z - 1) HKL.out HA3 rfl rfl s1Int ?_)
      intro w4 H4 HF4
      have HT4 : Hid (Ticking M b (k + 1) (L.set k { L.getD k default with left := z - 1 })) := Lib.hid (by rw [HZ.out]; exact HTK.out.step HI.out (by rw [← HN3.out]; exact hlt))
      clear HM HF HTK c3 hc2 HA3 HKL HZ
      go_wp2
      go_roundw
      case rel => exact ⟨k + 1, _, by omega, by go_num, HT4.out, H4.out, HF4.out⟩
      case measure => simp [intOf]; omega
    · have c3 : wr.cell? ⟨R, 3, none⟩ = some (.slice (A 3) n3 (c 3)) := by rw [HN3.out, ← HTK.out.len]; exact Mem.head HM.out (by decide)
      have HR0 : Hid (RTick w R A n0 b 0 wr) := Lib.hid ⟨_, A, c, HM.out, HF.out, HTK.out.inv HI.out, by show M.ready.length ≤ _; have := HI.out.rl; omega, HN0.out.symm⟩
      clear HM HF HTK
      go_wp2
      clear c3
      go_loopw [3] (fun s3 wr => ∃ k : Nat, k ≤ n0 ∧ s3 = .int .i64 (k : Int) ∧ RTick w R A n0 b k wr) (fun s3 _ => n0 - (intOf s3).toNat)
      case atStart => exact ⟨0, Nat.zero_le _, rfl, HR0.out⟩
      case round =>
        obtain ⟨k, hk, rfl, M', A', c', hm, hf, hinv, hrl, hpn⟩ := hrel
        have HM := Lib.hid hm
        have HF := Lib.hid hf
        have HINV := Lib.hid hinv
        have HRL := Lib.hid hrl
        have HPN := Lib.hid hpn
        have c0 : wr.cell? ⟨R, 0, none⟩ = some (.slice (A' 0) n0 (c' 0)) := by rw [← hpn]; exact Mem.head hm (by decide)
        by_cases hlt0 : k < n0
        · obtain ⟨m, hmm⟩ : ∃ m, m = M'.wts.length := ⟨_, rfl⟩
          have hm8 : m ≤ 200 := by rw [hmm]; have := hinv.wl; have := HBB.out; omega
          have HMM := Lib.hid hmm
          have HKN : Hid (k < M'.prs.length) := Lib.hid (by rw [hpn]; exact hlt0)
          clear hm hf hinv hrl hpn hmm HR0
          go_wp2
          clear c0
          go_loopw [4, 5, 6] (fun s4 s5 s6 wx => ∃ (j : Nat) (x y : Bool), j ≤ m ∧ s4 = .bool x ∧ s5 = .bool y ∧ s6 = .int .i64 (j : Int) ∧ ∃ d, wx = wr.drewN d) (fun _ _ s6 _ => m - (intOf s6).toNat)
          case atStart => exact ⟨0, false, false, Nat.zero_le _, rfl, rfl, rfl, 0, rfl⟩
          case round =>
            obtain ⟨j, x, y, hj, rfl, rfl, rfl, d, rfl⟩ := hrel
            by_cases hlt2 : j < m
            · obtain ⟨g3, hA3, hc3, _⟩ := HM.out.at3 (p := j) (by rw [← HMM.out]; exact hlt2)
              have c3 : wr.cell? ⟨R, 3, none⟩ = some (.slice (some ⟨g3, 0, none⟩) m (c' 3)) := by rw [HMM.out, ← hA3]; exact Mem.head HM.out (by decide)
              obtain ⟨wp, hwp⟩ : ∃ z : Int, z = (((M'.wts.getD j default).p : Nat) : Int) := ⟨_, rfl⟩
              obtain ⟨wrr, hwr⟩ : ∃ z : Int, z = (M'.wts.getD j default).r := ⟨_, rfl⟩
              obtain ⟨wl, hwl⟩ : ∃ z : Int, z = (M'.wts.getD j default).left := ⟨_, rfl⟩
              have d0 : wr.cell? ⟨g3, j * 4, none⟩ = some (.int .i64 wp) := by rw [hwp]; exact hc3 0 _ rfl
              have d1 : wr.cell? ⟨g3, j * 4 + 1, none⟩ = some (.int .i64 wrr) := by rw [hwr]; exact hc3 1 _ rfl
              have d2 : wr.cell? ⟨g3, j * 4 + 2, none⟩ = some (.int .i64 wl) := by rw [hwl]; exact hc3 2 _ rfl
              clear hA3 hc3 hwp hwr hwl
              by_cases he : wp = k
              · by_cases hl : wl = 0
                · subst he hl
                  go_wp2_with fail
                  go_quiet (fail)
                  go_wp2
                  go_roundw
                  case rel => exact ⟨j + 1, true, _, by omega, rfl, rfl, by go_num, _, rfl⟩
                  case measure => simp [intOf]; omega
                · have hl1 : (wl == 0) = false := by simpa using hl
                  subst he
                  clear hl
                  go_wp2
                  go_roundw
                  case rel => exact ⟨j + 1, x, y, by omega, rfl, rfl, by go_num, _, rfl⟩
                  case measure => simp [intOf]; omega
              · have he1 : (wp == (k : Int)) = false := by simpa using he
                clear he
                go_wp2
                go_roundw
                case rel => exact ⟨j + 1, x, y, by omega, rfl, rfl, by go_num, _, rfl⟩
                case measure => simp [intOf]; omega
            · have c3 : wr.cell? ⟨R, 3, none⟩ = some (.slice (A' 3) m (c' 3)) := by rw [HMM.out]; exact Mem.head HM.out (by decide)
              cases x with
              | true =>
                cases y with
                | true =>
                  go_wp2_with fail
                  refine (wakes_calls (wr.drewN d) R M' A' c' (HM.out.drewN d) (b + 1) HINV.out (by have := HBB.out; omega) k HKN.out 0 0 false).mono ?_
                  rintro e w7 ⟨zz, rfl, A7, c7, h7, hf7⟩
                  have HR7 : Hid (RTick w R A n0 b (k + 1) w7) := Lib.hid ⟨_, A7, c7, h7, (HF.out.drewN d).trans hf7, HINV.out.wakes HKN.out _ (by have := HRL.out; omega), by show (M'.ready ++ [k]).length ≤ _; have := HRL.out; simp; omega, HPN.out⟩
                  clear h7 hf7 HM HF
                  go_wp2
                  go_roundw
                  case rel => exact ⟨k + 1, by omega, by go_num, HR7.out⟩
                  case measure => simp [intOf]; omega
                | false =>
                  go_wp2_with fail
                  refine (wakes_calls (wr.drewN d) R M' A' c' (HM.out.drewN d) (b + 1) HINV.out (by have := HBB.out; omega) k HKN.out 131 0 false).mono ?_
                  rintro e w7 ⟨zz, rfl, A7, c7, h7, hf7⟩
                  have HR7 : Hid (RTick w R A n0 b (k + 1) w7) := Lib.hid ⟨_, A7, c7, h7, (HF.out.drewN d).trans hf7, HINV.out.wakes HKN.out _ (by have := HRL.out; omega), by show (M'.ready ++ [k]).length ≤ _; have := HRL.out; simp; omega, HPN.out⟩
                  clear h7 hf7 HM HF
                  go_wp2
                  go_roundw
                  case rel => exact ⟨k + 1, by omega, by go_num, HR7.out⟩
                  case measure => simp [intOf]; omega
              | false =>
                have HR7 : Hid (RTick w R A n0 b (k + 1) (wr.drewN d)) := Lib.hid ⟨M', A', c', HM.out.drewN d, HF.out.drewN d, HINV.out, by have := HRL.out; omega, HPN.out⟩
                clear HM HF
                go_wp2
                go_roundw
                case rel => exact ⟨k + 1, by omega, by go_num, HR7.out⟩
                case measure => simp [intOf]; omega
        · have HRES : Hid (RetRI w R A b (fun v => v = .tuple #[]) (.returned (.tuple #[])) wr) := Lib.hid ⟨_, M', rfl, rfl, ⟨A', c', hm, hf⟩, hinv⟩
          clear hm hf hinv HR0 HM HF
          go_wp2
          exact bodyPost_ret (v := .tuple #[]) (by simp [results, Try.results46, go_sem]) rfl HRES.out
end Go.Proofs.Ytgeffkdobnipgaa
/- A region that draws its order, as XRelL, and what is known of a slot may hang on what has been run; the relation names the operation. Over whatever program. -/
namespace Nac
open Go Go.RowKit
/-- what is known of a slot's value, kept along R -/
inductive KD where
  | is (v : Value)
  | pr (p : (Nat → Bool) → Value → World → Prop)
def KD.ok : KD → (Nat → Bool) → Value → World → Prop
  | .is u, _, v, _ => v = u
  | .pr p, L, v, w => p L v w
def KD.keeps (R : (Nat → Bool) → Nat → World → World → Prop) (i : Nat) (d : KD) : Prop := ∀ L k v w w', L i = true → L k = false → d.ok L v w → R L k w w' → d.ok (upd L k) v w'
theorem KD.keeps_is (R : (Nat → Bool) → Nat → World → World → Prop) (i : Nat) (v : Value) : KD.keeps R i (.is v) := fun _ _ _ _ _ _ _ h _ => h
section
variable {P : Program} {ops : Array Oper} {Q : Exit → Act → World → Prop} {R : (Nat → Bool) → Nat → World → World → Prop} {D : Nat → KD} {J : (Nat → Bool) → World → Prop} {a0 : Act}
structure KCtx (ops : Array Oper) (R : (Nat → Bool) → Nat → World → World → Prop) (D : Nat → KD) (J : (Nat → Bool) → World → Prop) (a0 : Act) (i : Nat) (L : Nat → Bool) (a : Act) (w : World) : Prop where
  world : J L w
  tsize : a.tmps.size = a0.tmps.size
  fresh : L i = false
  ahead : ∀ k, k ∈ preds ops 3 i → L k = true
  pred : ∀ k d, k ∈ preds ops 3 i → dstOf ops k = some d → (D k).ok L (a.tmps.getD d undef) w
  orig : ∀ t, origB ops i t = true → a.tmps.getD t undef = a0.tmps.getD t undef
def KStep (P : Program) (ops : Array Oper) (Q : Exit → Act → World → Prop) (R : (Nat → Bool) → Nat → World → World → Prop) (D : Nat → KD) (J : (Nat → Bool) → World → Prop) (a0 : Act) (i : Nat) : Prop :=
  ∀ o, ops[i]? = some o → ∀ L a w, KCtx ops R D J a0 i L a w →
    if Region.wanted o (yielded ops a.tmps) = true then o.wp P a w (fun a' w' => ∃ v, a' = a.put o.dst v ∧ (D i).ok (upd L i) v w' ∧ R L i w w' ∧ J (upd L i) w') Q else (D i).ok (upd L i) undef w ∧ J (upd L i) w
theorem relK_any {p : Nat} (hkeep : ∀ i, i < p → KD.keeps R i (D i)) (hrefl : ∀ L k w, R L k w w) (hch : chainB ops p = true) (hd : distinctB ops a0.tmps.size = true) (hbk : backB ops = true)
    (step : ∀ i, i < p → KStep P ops Q R D J a0 i)
    (fin : ∀ L a w, (∀ i, i < p → L i = true) → J L w → a.defers = a0.defers → a.tmps.size = a0.tmps.size → (∀ i d, i < p → dstOf ops i = some d → (D i).ok L (a.tmps.getD d undef) w) → (∀ t, (∀ i, i < p → dstOf ops i ≠ some t) → a.tmps.getD t undef = a0.tmps.getD t undef) → wpList P ops Q (ops.toList.drop p) a w) :
    ∀ (fuel : Nat) (listed : Array Bool) (a : Act) (w : World), falses listed ≤ fuel → (∀ j, p ≤ j → listed.getD j false = false) → VInv ops (fun _ _ => True) (fun _ _ => True) a0 listed a w → J (fun i => listed.getD i false) w → (∀ i d, listed.getD i false = true → dstOf ops i = some d → (D i).ok (fun k => listed.getD k false) (a.tmps.getD d undef) w) → wpAny P .any ops Q fuel listed a w := by
  have hps : p ≤ ops.size := by
    unfold chainB at hch
    rw [Bool.and_eq_true] at hch
    simpa using hch.1
  have hdist : ∀ x y d, x < ops.size → y < ops.size → dstOf ops x = some d → (d < a0.tmps.size) ∧ (dstOf ops y = some d → x = y) := by
    intro x y d hx hy hxd
    unfold distinctB at hd
    rw [List.all_eq_true] at hd
    have h1 := hd x (by simpa using hx)
    rw [Bool.and_eq_true, List.all_eq_true] at h1
    obtain ⟨h1, h2⟩ := h1
    have h2 := h2 y (by simpa using hy)
    rw [hxd] at h1 h2
    refine ⟨by simpa using h1, fun hyd => ?_⟩
    rw [hyd] at h2
    simpa using h2
  have hin : ∀ k d, dstOf ops k = some d → k < ops.size := by
    intro k d hk
    rcases Nat.lt_or_ge k ops.size with h | h
    · exact h
    · simp [dstOf, Array.getElem?_eq_none h] at hk
  have hall : ∀ (fuel : Nat) (listed : Array Bool) (a : Act) (w : World), falses listed ≤ fuel → (∀ j, p ≤ j → listed.getD j false = false) → VInv ops (fun _ _ => True) (fun _ _ => True) a0 listed a w → J (fun i => listed.getD i false) w → (∀ i d, listed.getD i false = true → dstOf ops i = some d → (D i).ok (fun k => listed.getD k false) (a.tmps.getD d undef) w) → (∀ j, j < p → listed.getD j false = true) → wpAny P .any ops Q fuel listed a w := by
    intro fuel listed a w hf hz hI hJ hD hl
    refine tail_any hch hbk fuel listed a w p (Nat.le_refl _) hps hI.size hf hl hz hI.closed ?_
    refine fin _ a w (fun i hi => hl i hi) hJ hI.defers hI.tsize (fun i d hi h => hD i d (hl i hi) h) (fun t ht => hI.rest t fun i hli => ht i ?_)
    rcases Nat.lt_or_ge i p with h | h
    · exact h
    · rw [hz i h] at hli; cases hli
  intro fuel
  induction fuel with
  | zero =>
    intro listed a w hf hz hI hJ hD
    exact hall 0 listed a w hf hz hI hJ hD fun i hi => falses_zero listed (by omega) i (by rw [hI.size]; omega)
  | succ fuel ih =>
    intro listed a w hf hz hI hJ hD
    by_cases hdone : ∀ j, j < p → listed.getD j false = true
    · exact hall _ listed a w hf hz hI hJ hD hdone
    have hnd : ∃ j, j < p ∧ listed.getD j false = false := by
      apply Classical.byContradiction
      intro h
      refine hdone fun j hj => ?_
      cases hb : listed.getD j false
      · exact absurd ⟨j, hj, hb⟩ h
      · rfl
    obtain ⟨j0, hj0, hl0⟩ := hnd
    refine ⟨fun hr => absurd hr (ready_ex hbk hI.size j0 (by omega) hl0), fun i hi => ?_⟩
    obtain ⟨h1, h2, o, ho, hready⟩ := ready_of hi hI.size
    have hip : i < p := by
      rcases Nat.lt_or_ge i p with h | h
      · exact h
      · have := chain_listed hch hI.closed h1 h (fun o' ho' => by rw [ho] at ho'; obtain rfl := Option.some.inj ho'; exact hready) j0 (by omega)
        rw [hl0] at this
        cases this
    have hctx : KCtx ops R D J a0 i (fun k => listed.getD k false) a w := by
      have hpc := preds_closed hI.closed 3 i (fun o' ho' => by rw [ho] at ho'; obtain rfl := Option.some.inj ho'; exact hready)
      refine ⟨hJ, hI.tsize, h2, hpc, fun k d hk hkd => hD k d (hpc k hk) hkd, fun t ht => hI.rest t fun k hl hkd => ?_⟩
      unfold origB at ht
      rw [List.all_eq_true] at ht
      have h3 := ht k (by simpa using hin k t hkd)
      rw [hkd] at h3
      simp only [bne_self_eq_false, Bool.false_or, List.contains_iff_mem] at h3
      have := preds_closed hI.closed 3 k (fun o' ho' e he hb' => hI.closed k o' ho' hl e he hb') i h3
      rw [h2] at this
      cases this
    have hs := step i hip o ho _ a w hctx
    have hfl : falses (listed.setIfInBounds i true) ≤ fuel := by
      have := falses_set listed i (by rw [hI.size]; exact h1) h2
      omega
    have hls : i < listed.size := by rw [hI.size]; exact h1
    have hz' : ∀ j, p ≤ j → (listed.setIfInBounds i true).getD j false = false := fun j hj => by
      rw [getD_setIf _ _ _ hls, if_neg (by omega)]
      exact hz j hj
    have hup : (fun k => (listed.setIfInBounds i true).getD k false) = upd (fun k => listed.getD k false) i := upd_listed _ _ hls
    have hdo : dstOf ops i = o.dst := by simp [dstOf, ho]
    have hnext : ∀ v w', (D i).ok (upd (fun k => listed.getD k false) i) v w' → R (fun k => listed.getD k false) i w w' → ∀ j d, (listed.setIfInBounds i true).getD j false = true → dstOf ops j = some d → (D j).ok (fun k => (listed.setIfInBounds i true).getD k false) ((a.put o.dst v).tmps.getD d undef) w' := by
      intro v w' hv hR j d hl hjd
      rw [getD_setIf _ _ _ hls] at hl
      have hput : (a.put o.dst v).tmps.getD d undef = if o.dst = some d then v else a.tmps.getD d undef := by
        cases hod : o.dst with
        | none => simp [Act.put]
        | some d' =>
          have hlt := (hdist i i d' h1 h1 (by rw [hdo, hod])).1
          simp only [Act.put]
          rw [getD_put _ _ _ _ (by rw [hI.tsize]; exact hlt)]
          simp
      rw [hput, hup]
      by_cases hij : i = j
      · subst hij
        rw [hdo] at hjd
        rw [if_pos hjd]
        exact hv
      · rw [if_neg hij] at hl
        rw [if_neg (fun h => hij ((hdist i j d h1 (hin j d hjd) (by rw [hdo]; exact h)).2 hjd))]
        exact hkeep j (Nat.lt_of_not_le fun h => by rw [hz j h] at hl; cases hl) _ _ _ _ _ hl h2 (hD j d hl hjd) hR
    unfold wpOp
    rw [ho]
    simp only
    split
    · rename_i hw
      rw [if_pos hw] at hs
      refine Or.inl (Oper.wp_mono ?_ hs)
      rintro a' w' ⟨v, rfl, hv, hR, hb⟩
      exact ih _ _ _ hfl hz' (val_put (v := v) hI h1 ho hd hready trivial trivial) (by rw [hup]; exact hb) (hnext v w' hv hR)
    · rename_i hw
      rw [if_neg hw] at hs
      exact ih _ _ _ hfl hz' (val_put (v := undef) hI h1 ho hd hready trivial trivial) (by rw [hup]; exact hs.2) (hnext undef w hs.1 (hrefl _ _ w))
/-- THE LAW -/
theorem region_relK {id : Nat} {a0 : Act} {w0 : World} (p : Nat) (R : (Nat → Bool) → Nat → World → World → Prop) (D : Nat → KD) (ds : List (Option Tmp)) (J : (Nat → Bool) → World → Prop) (hkeep : ∀ i, i < p → KD.keeps R i (D i)) (hrefl : ∀ L k w, R L k w w) (hm : P.follows .mixedOrders = true) (hd : distinctB ops a0.tmps.size = true) (hbk : backB ops = true)
    (hch : chainB ops p = true) (hds : (ops.toList.take p).map (·.dst) = ds)
    (h0 : J (fun _ => false) w0.drew)
    (step : ∀ i, i < p → KStep P ops Q R D J a0 i)
    (fin : ∀ L V w, (∀ i, i < p → L i = true) → V.length = ds.length → J L w → (∀ i d, ds[i]? = some (some d) → (D i).ok L (V.getD i undef) w) → wpList P ops Q (ops.toList.drop p) (putsL (ds.zip V) a0) w) :
    (Code.region id ops true).wp P Q a0 w0 := by
  refine wp_region_any hm ?_
  have hps : p ≤ ops.size := by
    unfold chainB at hch
    rw [Bool.and_eq_true] at hch
    simpa using hch.1
  have hg : ∀ i, (Array.replicate ops.size false).getD i false = false := by
    intro i
    rw [Array.getD_eq_getD_getElem?, Array.getElem?_replicate]
    split <;> rfl
  refine relK_any (D := D) (J := J) (a0 := a0) hkeep hrefl hch hd hbk step (fun L a w hall hJ hde hts hs hr => ?_) _ _ _ _ ?_ (fun j _ => hg j) ⟨by simp, trivial, rfl, rfl, fun i o _ h => (by rw [hg] at h; cases h), fun i d h => (by rw [hg] at h; cases h), fun _ _ => rfl⟩ ?_ (fun i d h => by rw [hg] at h; cases h)
  · have hlt : ∀ i x, ds[i]? = some x → i < p := by
      intro i x h
      have := (List.getElem?_eq_some_iff.1 h).1
      rw [← hds] at this
      simp at this
      omega
    have hdi : ∀ i d, ds[i]? = some (some d) → dstOf ops i = some d := by
      intro i d h
      have hi := hlt i _ h
      rw [← hds, List.getElem?_map, List.getElem?_take_of_lt hi, Array.getElem?_toList] at h
      unfold dstOf
      cases ho : ops[i]? with
      | none => rw [ho] at h; cases h
      | some o => rw [ho] at h; simpa using h
    have hdi' : ∀ i d, i < p → dstOf ops i = some d → ds[i]? = some (some d) := by
      intro i d hi h
      rw [← hds, List.getElem?_map, List.getElem?_take_of_lt hi, Array.getElem?_toList]
      unfold dstOf at h
      cases ho : ops[i]? with
      | none => rw [ho] at h; cases h
      | some o => rw [ho] at h; simpa using h
    have e := putsL_eq (a0 := a0) (a := a) (l := ds.zip (slotsOf a.tmps ds)) hde hts ?_ ?_
    · have hf := fin L (slotsOf a.tmps ds) w hall (by simp [slotsOf]) hJ fun i d h => by
        have := hs i d (hlt i _ h) (hdi i d h)
        have e2 : (slotsOf a.tmps ds).getD i undef = a.tmps.getD d undef := by
          unfold slotsOf
          rw [List.getD_eq_getElem?_getD, List.getElem?_map, h]
          rfl
        rw [e2]
        exact this
      rw [← e] at hf
      exact hf
    · intro x hx t ht
      obtain ⟨i, hi⟩ := List.mem_iff_getElem?.1 hx
      obtain ⟨h1, h2⟩ := List.getElem?_zip_eq_some.1 hi
      unfold slotsOf at h2
      rw [List.getElem?_map, h1] at h2
      obtain ⟨d, v⟩ := x
      simp only at ht h1 h2
      subst ht
      simpa using h2
    · intro t ht
      refine hr t fun i hip hdt => ?_
      have h1 := hdi' i t hip hdt
      have h3 : (slotsOf a.tmps ds)[i]? = some (a.tmps.getD t undef) := by
        unfold slotsOf
        rw [List.getElem?_map, h1]
        rfl
      exact ht (some t, a.tmps.getD t undef) (List.mem_iff_getElem?.2 ⟨i, List.getElem?_zip_eq_some.2 ⟨h1, h3⟩⟩) rfl
  · unfold falses
    simp
  · rw [show (fun i => (Array.replicate ops.size false).getD i false) = fun _ => false from funext hg]
    exact h0
theorem KCtx.slot {i : Nat} {L : Nat → Bool} {a : Act} {w : World} (c : KCtx ops R D J a0 i L a w) (k x : Nat) (hk : (preds ops 3 i).contains k = true) (hx : dstOf ops k = some x) : (D k).ok L (a.tmps.getD x undef) w :=
  c.pred k x (by simpa using hk) hx
/-! ### one operation -/
variable {i : Nat} {o : Oper}
theorem kwant_none (hg : o.guard = none) : ∀ L a w, KCtx ops R D J a0 i L a w → Region.wanted o (yielded ops a.tmps) = true := fun _ _ _ _ => by simp [Region.wanted, hg]
theorem kwant (j : Nat) (want : Bool) (d : Tmp) (hg : o.guard = some (j, want)) (hj : (preds ops 3 i).contains j = true) (hdj : dstOf ops j = some d) (hD : D j = .is (.bool want)) (hlt : decide (d < a0.tmps.size) = true) :
    ∀ L a w, KCtx ops R D J a0 i L a w → Region.wanted o (yielded ops a.tmps) = true := fun L a w c => by
  have hsz := c.tsize
  have h := c.pred j d (by simpa using hj) hdj
  rw [hD] at h
  have h : a.tmps.getD d undef = .bool want := h
  have hlt : d < a.tmps.size := by rw [hsz]; simpa using hlt
  have hy : yielded ops a.tmps j = some want := by
    unfold yielded
    have hdj' : (ops[j]?).bind (·.dst) = some d := hdj
    rw [hdj']
    rw [Array.getD_eq_getD_getElem?, Array.getElem?_eq_getElem hlt] at h
    simp only [Option.getD_some] at h
    simp [Array.getElem?_eq_getElem hlt, h]
  simp [Region.wanted, hg, hy]
/-- one that leaves the world as it is -/
theorem kstep_pure (hrefl : ∀ L k w, R L k w w) (ho : ops[i]? = some o) (hw : ∀ L a w, KCtx ops R D J a0 i L a w → Region.wanted o (yielded ops a.tmps) = true) (hJ : ∀ L w, J L w → J (upd L i) w)
    (h : ∀ L a w, KCtx ops R D J a0 i L a w → ∃ v, (execOp a.eval o).run P w = .ok (.value v) w ∧ (D i).ok (upd L i) v w) : KStep P ops Q R D J a0 i := by
  intro o' ho' L a w c
  rw [ho] at ho'
  obtain rfl := Option.some.inj ho'
  rw [if_pos (hw L a w c)]
  obtain ⟨v, hr, hv⟩ := h L a w c
  unfold Oper.wp
  rw [hr]
  exact ⟨v, rfl, hv, hrefl _ _ w, hJ _ _ c.world⟩
theorem kstep_copy (hrefl : ∀ L k w, R L k w w) (ho : ops[i]? = some o) (hw : ∀ L a w, KCtx ops R D J a0 i L a w → Region.wanted o (yielded ops a.tmps) = true) (hJ : ∀ L w, J L w → J (upd L i) w) (t : Tmp) (hop : o.op = .move (.tmp t) ∨ o.op = .assign (.tmp t))
    (k : Nat) (hk : (preds ops 3 i).contains k = true) (hkd : dstOf ops k = some t) (u : Value) (hDk : D k = .is u) (hD : D i = .is u) : KStep P ops Q R D J a0 i :=
  kstep_pure hrefl ho hw hJ fun L a w c => ⟨a.tmps.getD t undef, by rcases hop with h | h <;> simp [execOp, h, Act.eval], by have := c.pred k t (by simpa using hk) hkd; rw [hDk] at this; rw [hD]; exact this⟩
theorem kstep_first (hrefl : ∀ L k w, R L k w w) (ho : ops[i]? = some o) (hw : ∀ L a w, KCtx ops R D J a0 i L a w → Region.wanted o (yielded ops a.tmps) = true) (hJ : ∀ L w, J L w → J (upd L i) w) (t : Tmp) (hop : o.op = .move (.tmp t) ∨ o.op = .assign (.tmp t))
    (ht : origB ops i t = true) (hD : ∀ L w, (D i).ok L (a0.tmps.getD t undef) w) : KStep P ops Q R D J a0 i :=
  kstep_pure hrefl ho hw hJ fun L a w c => ⟨a.tmps.getD t undef, by rcases hop with h | h <;> simp [execOp, h, Act.eval], by rw [c.orig t ht]; exact hD _ w⟩
theorem kstep_const (hrefl : ∀ L k w, R L k w w) (ho : ops[i]? = some o) (hw : ∀ L a w, KCtx ops R D J a0 i L a w → Region.wanted o (yielded ops a.tmps) = true) (hJ : ∀ L w, J L w → J (upd L i) w) (v : Value) (hop : o.op = .move (.const v) ∨ o.op = .assign (.const v)) (hD : D i = .is v) : KStep P ops Q R D J a0 i :=
  kstep_pure hrefl ho hw hJ fun L a w _ => ⟨v, by rcases hop with h | h <;> simp [execOp, h, Act.eval], by rw [hD]; rfl⟩
end
end Nac
/- append onto a row just made that holds nothing: no older block changes. -/
namespace Go.Proofs.Ytgeffkdobnipgaa
open Go.RowKit Nac
section
variable {P : Program} (w : World)
theorem run_appF (t ty e : TypeId) (z : Value) (size bytes : Nat) (ht : P.underlying t = some (.slice e)) (hinfo : (P.info? e).map (fun i => (i.zero, i.size, i.bytes)) = some (some z, size, bytes))
    (hzs : z.cells.size = size) (hsz : 0 < size) (g : Nat) (hown : Row w e size (some ⟨g, 0, none⟩) 0 0 [])
    (A2 : Option Addr) (m c2 : Nat) (news : List Value) (hl : news.length = m * size) (hs : Src w A2 news) (h1 : ∀ u ∈ news, u.oneCell' = true)
    (hbytes : m * bytes ≤ 140737488355328) (h63 : m ≤ maxLen) :
    ∃ A' c' w', (Builtin.append_ #[t, t] ty #[.slice (some ⟨g, 0, none⟩) 0 0, .slice A2 m c2]).run P w = .ok (.slice A' m c') w' ∧ Row w' e size A' c' m news ∧
      w.grownBy w' none ∧ (A'.map (·.block) = some g ∨ A'.map (·.block) = some w.heap.size) := by
  by_cases hm : m = 0
  · subst hm
    have hn : news = [] := List.eq_nil_of_length_eq_zero (by simpa using hl)
    subst hn
    obtain ⟨i, hi, hz, hs1, hb1⟩ := info_parts hinfo
    refine ⟨some ⟨g, 0, none⟩, 0, w, ?_, hown, World.grownBy.refl w _, .inl rfl⟩
    simp [Builtin.append_, run_underlying ht, sizeOf, typeInfo, hi, Builtin.lenOf, Builtin.firstCells, storeCells]
    cases A2 <;> simp [loadCells, loadCellsFrom, storeCells]
  · obtain ⟨A', c', w', hr, h2, _, h5⟩ := run_app (P := P) w 0 t ty e z size bytes ht hinfo hzs hsz (some ⟨g, 0, none⟩) 0 0 [] hown A2 m c2 news hl hs h1 (by rw [Nat.zero_add]; exact hbytes) (by rw [Nat.zero_add]; exact h63) (Nat.zero_le _)
    obtain ⟨i, hi, hz, hs1, hb1⟩ := info_parts hinfo
    have hne : news ≠ [] := by
      rintro rfl
      have := Nat.mul_pos (Nat.pos_of_ne_zero hm) hsz
      simp at hl
      omega
    obtain ⟨ad, rfl, hc⟩ := hs hne
    have hr2 := run_append_grow (P := P) w t ty e i z ht hi hz ⟨g, 0, none⟩ 0 0 [] (by simp) (fun j v h => by simp at h) ad m c2 news (by rw [hs1]; exact hl) hc (by omega) (by unfold maxLen at h63; omega) (growslice_fits (by omega) (by rw [hb1]; simpa using hbytes))
    rw [hr] at hr2
    injection hr2 with hv hw
    rw [Nat.zero_add] at h2
    refine ⟨A', c', w', by rw [hr, Nat.zero_add], (by unfold Row; simpa using h2), ?_, by simpa using h5⟩
    rw [hw]
    have hd : w.grownBy w.drew none := ⟨rfl, rfl, rfl, Nat.le_refl _, fun _ _ _ => rfl⟩
    exact hd.trans (World.grownBy_alloc w.drew _ _)
end
end Go.Proofs.Ytgeffkdobnipgaa
/- append onto a row just made that holds nothing: a drawn region's operations, memory only growing. -/
namespace Go.Proofs.Ytgeffkdobnipgaa
open Go.RowKit Nac
/-- a new row of none -/
def Empt (W : World) (E : TypeId) (v : Value) (w : World) : Prop := ∃ g, v = .slice (some ⟨g, 0, none⟩) 0 0 ∧ Row w E 1 (some ⟨g, 0, none⟩) 0 0 [] ∧ W.heap.size ≤ g
/-- a new row of these -/
def Copied (W : World) (E : TypeId) (xs : List Value) (v : Value) (w : World) : Prop := ∃ A c, v = .slice A xs.length c ∧ Row w E 1 A c xs.length xs ∧ ∀ g, A.map (·.block) = some g → W.heap.size ≤ g
theorem Empt.mono {W : World} {E : TypeId} (v : Value) (w w' : World) (h : Empt W E v w) (hb : Below w.heap.size w w') : Empt W E v w' := by
  obtain ⟨g, hv, hr, hg⟩ := h
  exact ⟨g, hv, hr.below hb, hg⟩
theorem Copied.mono {W : World} {E : TypeId} {xs : List Value} (v : Value) (w w' : World) (h : Copied W E xs v w) (hb : Below w.heap.size w w') : Copied W E xs v w' := by
  obtain ⟨A, c, hv, hr, hg⟩ := h
  exact ⟨A, c, hv, hr.below hb, hg⟩
section
variable {ops : Array Oper} {Q : Exit → Act → World → Prop} {D : Nat → VD} {a0 : Act} {i : Nat} {o : Oper} {W : World}
theorem empt_new (w : World) (E : TypeId) (hW : W.heap.size ≤ w.heap.size) : Empt W E (.slice (some ⟨w.heap.size, 0, none⟩) 0 0) (w.alloc (.cells #[] E)) := by
  refine ⟨w.heap.size, rfl, ⟨by simp, .inr ⟨w.heap.size, 0, #[], rfl, Nat.zero_le _, ?_, Nat.le_refl _, Nat.zero_le _, by simp, by simp⟩⟩, hW⟩
  first | exact heap_alloc_new w _ | simp
theorem mstep_build0 {T E : TypeId} (ho : ops[i]? = some o) (hw : ∀ a w, MCtx ops D a0 W i a w → Region.wanted o (yielded ops a.tmps) = true)
    (hop : o.op = .buildSlice T 0 #[]) (hr : ∀ w, (Instr.buildSlice T 0 #[]).run Try.prog w = .ok (.slice (some ⟨w.heap.size, 0, none⟩) 0 0) (w.alloc (.cells #[] E)))
    (hD : D i = .pr (Empt W E) Empt.mono) : MStep Try.prog ops Q D a0 W i :=
  mstep_val ho hw fun a w c => ⟨.slice (some ⟨w.heap.size, 0, none⟩) 0 0, w.alloc (.cells #[] E), by simp [execOp, hop, hr], by rw [hD]; exact empt_new w E c.below.size, (Below.refl _ _).alloc (Nat.le_refl _) _⟩
theorem mstep_appF {T E : TypeId} {z : Value} {bytes : Nat} (hT : Try.prog.underlying T = some (.slice E)) (hinfo : (Try.prog.info? E).map (fun i => (i.zero, i.size, i.bytes)) = some (some z, 1, bytes)) (hz1 : z.cells.size = 1) (hby : bytes ≤ 8)
    (ho : ops[i]? = some o) (hw : ∀ a w, MCtx ops D a0 W i a w → Region.wanted o (yielded ops a.tmps) = true) (s x : Tmp)
    (hop : o.op = .call { callee := .builtin .append, args := #[.tmp s, .tmp x], argTypes := #[T, T] })
    (A2 : Option Addr) (m c2 : Nat) (news : List Value) (hl : news.length = m) (h1 : ∀ u ∈ news, u.oneCell' = true) (hm : m ≤ 1000000)
    (hs : ∀ a w, MCtx ops D a0 W i a w → Empt W E (a.tmps.getD s undef) w)
    (hx : ∀ a w, MCtx ops D a0 W i a w → a.tmps.getD x undef = .slice A2 m c2) (hsrc : ∀ w, Below W.heap.size W w → Src w A2 news) (hD : D i = .pr (Copied W E news) Copied.mono) : MStep Try.prog ops Q D a0 W i := by
  subst hl
  refine mstep_val ho hw fun a w c => ?_
  obtain ⟨g, hv, hrow, hg⟩ := hs a w c
  have hmul : news.length * bytes ≤ news.length * 8 := Nat.mul_le_mul_left _ hby
  obtain ⟨A', c', w', hr, h2, h3, h5⟩ := run_appF (P := Try.prog) w T o.type E z 1 bytes hT hinfo hz1 (by decide) g hrow A2 news.length c2 news (by omega) (hsrc w c.below) h1 (by omega) (by unfold maxLen; omega)
  refine ⟨.slice A' news.length c', w', ?_, ?_, (Below.refl _ _).grown h3 (Nat.le_refl _) fun k e => by cases e⟩
  · have e1 := hx a w c
    unfold execOp
    simp only [hop, resolve, invoke, builtin, Sem.run_bind, Sem.run_pure, Result.andThen_ok, List.map_toArray, List.map_cons, List.map_nil, Act.eval, e1, hv, hr]
  · rw [hD]
    refine ⟨A', c', rfl, h2, fun k hk => ?_⟩
    rcases h5 with h5 | h5
    · rw [h5] at hk; injection hk with hk; omega
    · rw [h5] at hk; injection hk with hk; have := c.below.size; omega
end
end Go.Proofs.Ytgeffkdobnipgaa
/- The document's set: Take's pieces. -/
namespace Go.Proofs.Ytgeffkdobnipgaa
open Go.RowKit Nac Nac.Procs
theorem build0_i64 (w : World) : (Instr.buildSlice 56 0 #[]).run Try.prog w = .ok (.slice (some ⟨w.heap.size, 0, none⟩) 0 0) (w.alloc (.cells #[] 2)) := by
  obtain ⟨ti, hi, hz, hs1, hb1⟩ := info_parts Try.infoI64
  have hu := Try.underlying56
  have hc1 : (sizeOf 2).run Try.prog w = .ok 1 w := by simp [sizeOf, typeInfo, hi, hs1]
  have e : (Array.map (fun _ : Nat => (default : Value)) (Array.range 0)) = #[] := by kernel_rfl
  have hn : (newRow 2 #[]).run Try.prog w = .ok ⟨w.heap.size, 0, none⟩ (w.alloc (.cells #[] 2)) := by simp [newRow]
  simp only [Instr.buildSlice, Sem.run_bind, run_underlying hu, Result.andThen_ok, hc1]
  simp [Instr.fill, e, hn]
def tailA (g c : Nat) : Option Addr := if c = 1 then some ⟨g, 0, none⟩ else some ⟨g, 1, none⟩
theorem run_tail64 (w : World) (g n c : Nat) (hn : 1 ≤ n) (hc : n ≤ c) : (Instr.sliceAt 56 (.slice (some ⟨g, 0, none⟩) n c) (some (.int .i64 1)) none none).run Try.prog w = .ok (.slice (tailA g c) (n - 1) (c - 1)) w := by
  have hu := Try.underlying56
  have hc1 : (sizeOf 2).run Try.prog w = .ok 1 w := by
    obtain ⟨i, hi, _, hs, _⟩ := info_parts Try.infoI64
    simp [sizeOf, typeInfo, hi, hs]
  have h' : (1 : Int) ≤ (n : Int) := by omega
  simp [Instr.sliceAt, Instr.slice, run_underlying hu, Instr.sliceBounds, Instr.sliceBound, asIntOf, hc1, h', Addr.add, tailA]
section
variable {w0 w w' : World} {R : Nat} {M : RSt} {A0 A : Nat → Option Addr} {c : Nat → Nat}
/-- a resource's items, where they lie -/
theorem RefM.at4 (h : RefM w R M A c) {r : Nat} (hr : r < M.items.length) : ∃ g, A 4 = some ⟨g, 0, none⟩ ∧ w.cell? ⟨g, r, none⟩ = some (.slice (A (6 + r)) (M.its r).length (c (6 + r))) ∧ ∀ k, w.frozen? ⟨g, k, none⟩ = false := by
  have hro : Row w 56 1 (A 4) (c 4) M.items.length ((List.range M.items.length).map fun i => Value.slice (A (6 + i)) (M.items.getD i []).length (c (6 + i))) := Mem.row h 4
  obtain ⟨g, hA, _, hc, hf⟩ := hro.at (j := r) (by simpa using hr)
  exact ⟨g, hA, by rw [hc]; simp [RSt.its], hf⟩
theorem RefM.its_row (h : RefM w R M A c) (r : Nat) : Row w 2 1 (A (6 + r)) (c (6 + r)) (M.its r).length ((M.its r).map (Value.int .i64)) := by
  rw [show 6 + r = r + 6 from Nat.add_comm ..]
  exact Mem.row h (r + 6)
/-- a resource's items, anew, the row just made -/
theorem wpList_ritems {ops : Array Oper} {rest : List Oper} {o : Oper} {a : Act} {Q : Exit → Act → World → Prop} (hg : o.guard = none) (ty : TypeId) (x y : Operand) (hop : o.op = .store ty x y)
    (H : Hid (RefM w R M A c)) (HF : Hid (FrS R A0 w0 A w)) {r g : Nat} (hr : r < M.items.length) (hA : Hid (A 4 = some ⟨g, 0, none⟩)) {A2 : Option Addr} {c2 n2 : Nat} {l : List Int} (hn : n2 = l.length)
    (hrow : Hid (Row w' 2 1 A2 c2 l.length (l.map (Value.int .i64)))) (hgr : Hid (w.grownBy w' ((A (6 + r)).map (·.block)))) (hb : Hid (NewB w (A (6 + r)) A2))
    (hx : a.eval x = .pointer (some ⟨g, r, none⟩)) (hy : a.eval y = .slice A2 n2 c2) (hi : (Try.prog.info? ty).map (·.size) = some 1)
    (h : ∀ w2, Hid (RefM w2 R { M with items := M.items.set r l } (upA A (6 + r) A2) (upC c (6 + r) c2)) → Hid (FrS R A0 w0 (upA A (6 + r) A2) w2) → wpList Try.prog ops Q rest (a.put o.dst undef) w2) : wpList Try.prog ops Q (o :: rest) a w' := by
  subst hn
  have hq := H.out.items hr hA.out hrow.out hgr.out hb.out
  obtain ⟨g', hA', hc, hf⟩ := H.out.at4 hr
  rw [hA.out] at hA'
  injection hA' with e
  injection e with e
  subst e
  have hlt : g < w.heap.size := Mem.lt H.out 4 g (by rw [hA.out]; rfl)
  have hne : some g ≠ (A (6 + r)).map (·.block) := fun e => H.out.ap 4 (6 + r) g (by omega) (by rw [hA.out]; rfl) e.symm
  have hbk : w'.heap[g]? = w.heap[g]? := hgr.out.block g hlt hne
  refine wpList_store1 hg ty x y hop g r (.slice A2 l.length c2) _ hx hy ((World.cell?_of_block (w := w) hbk).trans hc) ((World.frozen?_of_block (w := w) hbk).trans (hf r)) hi rfl fun w2 hw2 => ?_
  rw [hw2.out]
  exact h _ (Lib.hid hq.1) (Lib.hid (HF.out.trans hq.2))
end
end Go.Proofs.Ytgeffkdobnipgaa
