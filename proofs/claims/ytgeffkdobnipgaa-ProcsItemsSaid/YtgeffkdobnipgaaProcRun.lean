/- procs: Running. -/
import Derived.Test.YtgeffkdobnipgaaProcWait
namespace Nac.Procs
theorem great_snoc (s : PSet) (l : List Nat) (p : Nat) : ∀ g, great s (l ++ [p]) g = max (great s l g) (s.proc p).pr := by
  induction l with
  | nil => intro g; rfl
  | cons a l ih => intro g; exact ih _
end Nac.Procs
namespace Nac
open Go Go.RowKit
section
variable {P : Program} {w : World} {ops : Array Oper} {rest : List Oper} {o : Oper} {a : Act} {Q : Exit → Act → World → Prop} {T : TypeId}
/-- a variable of one cell: boxed, new, stored -/
theorem wpList_box1 (hg : o.guard = none) (x : Operand) (hop : o.op = .box T x) (v : Value) (hx : a.eval x = v) (hc : v.cells = #[v])
    (h : ∀ w', Blk w' w.heap.size [v] → w.grownBy w' none → w'.heap.size = w.heap.size + 1 → wpList P ops Q rest (a.put o.dst (.pointer (some ⟨w.heap.size, 0, none⟩))) w') : wpList P ops Q (o :: rest) a w := by
  refine wpList_plain hg fun K hK => ?_
  unfold Oper.wp execOp
  simp only [hop, Sem.run_bind, Instr.box, newVar, newRow, run_newObj_alloc, Sem.run_pure, Result.andThen_ok, hx, hc]
  exact hK _ _ (h _ (Blk.new w [v] T) (World.grownBy_alloc w _ none) (by simp))
theorem wpList_alloc1 (v : Value) (hz : ((P.info? T).bind (·.zero)) = some v) (hc : v.cells = #[v]) (hg : o.guard = none) (hop : o.op = .alloc T)
    (h : ∀ w', Blk w' w.heap.size [v] → w.grownBy w' none → w'.heap.size = w.heap.size + 1 → wpList P ops Q rest (a.put o.dst (.pointer (some ⟨w.heap.size, 0, none⟩))) w') : wpList P ops Q (o :: rest) a w := by
  refine wpList_plain hg fun K hK => ?_
  have hz : (zeroValue T).run P w = .ok v w := by
    cases hi : P.info? T with
    | none => simp [hi] at hz
    | some i =>
      simp [hi] at hz
      simp [zeroValue, typeInfo, hi, hz]
  have hr : (Instr.alloc T true (.tuple #[])).run P w = .ok (.pointer (some ⟨w.heap.size, 0, none⟩)) (w.alloc (.cells #[v] T)) := by
    simp [Instr.alloc, hz, newVar, newRow, hc]
  unfold Oper.wp execOp
  simp only [hop, Sem.run_bind, hr, Result.andThen_ok]
  exact hK _ _ (h _ (Blk.new w [v] T) (World.grownBy_alloc w _ none) (by simp))
theorem wpList_storeB (hg : o.guard = none) (ty : TypeId) (x y : Operand) (hop : o.op = .store ty x y) (b k : Nat) (cs : List Value) (v : Value) (hx : a.eval x = .pointer (some ⟨b, k, none⟩)) (hy : a.eval y = v) (hb : Blk w b cs) (hk : k < cs.length)
    (hi : (P.info? ty).map (·.size) = some 1) (h1 : v.oneCell' = true) (h : ∀ w', Blk w' b (cs.set k v) → w.grownBy w' (some b) → wpList P ops Q rest (a.put o.dst undef) w') : wpList P ops Q (o :: rest) a w :=
  wpList_store1 hg ty x y hop b k v cs[k] hx hy (hb.cell (List.getElem?_eq_getElem hk)) (hb.free k) hi h1 fun w' hw => by
    rw [hw.out]
    exact h _ (hb.setCell k v) (grown_setCell _ _ _)
end
theorem below_drewN' {B : Nat} {a w : World} (h : Below B a w) (n : Nat) : Below B a (w.drewN n) := ⟨h.os, h.tape, h.output, h.size, h.block⟩
theorem grown_below {w w' : World} {row : Option Nat} {B : Nat} (h : w.grownBy w' row) (hB : B ≤ w.heap.size) (hr : ∀ k, row = some k → B ≤ k) : Below B w w' :=
  ⟨h.os, h.tape, h.output, h.size, fun k hk => h.block k (Nat.lt_of_lt_of_le hk hB) fun e => by have := hr k e.symm; omega⟩
end Nac
namespace Go.Proofs.Ytgeffkdobnipgaa
open Go.RowKit Nac Nac.Procs
def RetBd (w : World) (b : Bool) (e : Ending) (w' : World) : Prop := e = .returned (.bool b) ∧ ∃ d, w' = w.drewN d
def RetId (w : World) (z : Int) (e : Ending) (w' : World) : Prop := e = .returned (.int .i64 z) ∧ ∃ d, w' = w.drewN d
def RetIb (w : World) (z : Int) (e : Ending) (w' : World) : Prop := e = .returned (.int .i64 z) ∧ Below w.heap.size w w'
theorem run_pred (w : World) (S B1 B3 : Nat) (P : PSet) (A : Nat → Option Addr) (c : Nat → Nat) (h : SetM w S P A c) (h8 : P.ps.length ≤ 1000) (h1 : w.cell? ⟨B1, 0, none⟩ = some (.pointer (some ⟨S, 0, none⟩))) (gr : Int) (h3 : w.cell? ⟨B3, 0, none⟩ = some (.int .i64 gr)) (q : Nat) (hq : q < P.ps.length) :
    Calls Try.prog 27 #[.int .i64 (q : Int), .pointer (some ⟨B1, 0, none⟩), .pointer (some ⟨B3, 0, none⟩)] w (RetBd w ((P.proc q).pr == gr)) := by
  obtain ⟨g, hA, _⟩ := h.pcell hq
  obtain ⟨n, hn⟩ : ∃ n, n = P.ps.length := ⟨_, rfl⟩
  have c0 := h.head0 hA hn
  have c1 : w.cell? ⟨g, q * 8, none⟩ = some (.int .i64 (P.proc q).pr) := h.pget (f := 0) hq hA rfl
  obtain ⟨pq, hpq⟩ : ∃ x, x = (P.proc q).pr := ⟨_, rfl⟩
  rw [← hpq] at c1 ⊢
  rw [← hn] at hq h8
  clear h hA hn hpq
  go_enter Try.func27, Try.ntmps27
  go_wp2_with fail
  go_quiet (fail)
  go_wp2
  go_ret
  exact ⟨rfl, _, rfl⟩
theorem index_run (w : World) (S B1 B3 : Nat) (P : PSet) (AA : Nat → Option Addr) (cc : Nat → Nat) (HS : SetM w S P AA cc) (h8p : P.ps.length ≤ 1000) (h1 : w.cell? ⟨B1, 0, none⟩ = some (.pointer (some ⟨S, 0, none⟩))) (gr : Int) (h3 : w.cell? ⟨B3, 0, none⟩ = some (.int .i64 gr))
    (A : Option Addr) (c : Nat) (l : List Nat) (n : Nat) (hn : n = l.length) (hr : Row w 3 1 A c l.length (nums l)) (h8 : n ≤ 1000) (hin : ∀ q ∈ l, q < P.ps.length) :
    Calls Try.prog 26 #[.slice A n c, .func (.func 27) #[] #[.pointer (some ⟨B1, 0, none⟩), .pointer (some ⟨B3, 0, none⟩)]] w (RetId w (idxOf l (fun q => (P.proc q).pr == gr))) := by
  have HR := Lib.hid hr
  have HN := Lib.hid hn
  have H1 := Lib.hid h1
  have H3 := Lib.hid h3
  have HM := Lib.hid HS
  have HIN := Lib.hid hin
  have H8 := Lib.hid h8p
  clear hr hn h1 h3 HS hin h8p
  go_enter Try.func26, Try.ntmps26
  go_wp2
  go_loopw [5, 8] (fun _ i wr => ∃ k : Nat, k ≤ n ∧ i = .int .i64 k ∧ (∃ d, wr = w.drewN d) ∧ Hid (∀ j, j < k → ((P.proc (l.getD j 0)).pr == gr) = false)) (fun _ i _ => n - (intOf i).toNat)
  case atStart => exact ⟨0, Nat.zero_le _, rfl, ⟨0, rfl⟩, Lib.hid fun j hj => absurd hj (Nat.not_lt_zero j)⟩
  case round =>
    obtain ⟨k, hk, rfl, ⟨d, rfl⟩, HK⟩ := hrel
    by_cases hlt : k < n
    · have hkl : k < (nums l).length := by simp [nums, ← HN.out, hlt]
      obtain ⟨g, hA, hg, hc, hf⟩ := HR.out.at hkl
      have hkl2 : k < l.length := by rw [← HN.out]; exact hlt
      have hc' : (w.drewN d).cell? ⟨g, k, none⟩ = some (.int .i64 (l.getD k 0 : Nat)) := by
        show w.cell? ⟨g, k, none⟩ = _
        rw [hc]; simp [nums, List.getD, hkl2]
      subst hA
      obtain ⟨x, hx⟩ : ∃ x, x = l.getD k 0 := ⟨_, rfl⟩
      have HXI : Hid (x < P.ps.length) := Lib.hid (HIN.out x (by rw [hx]; simp [List.getD, hkl2]))
      rw [← hx] at hc'
      have HX := Lib.hid hx
      clear hx hc hf hg hkl hkl2
      go_wp2_with fail
      refine (run_pred (w.drewN d) S B1 B3 P AA cc (HM.out.drewN d) H8.out H1.out gr H3.out x HXI.out).mono ?_
      rintro e w1 ⟨rfl, d2, rfl⟩
      cases hb : ((P.proc x).pr == gr) with
      | true =>
        have HI : Hid (idxOf l (fun q => (P.proc q).pr == gr) = k) := Lib.hid (by
          have hk' : k < l.length := by rw [← HN.out]; exact hlt
          have e2 : l.findIdx? (fun q => (P.proc q).pr == gr) = some k := by
            rw [List.findIdx?_eq_some_iff_getElem]
            refine ⟨hk', ?_, fun j hj => ?_⟩
            · have : l.getD k 0 = l[k] := by simp [List.getD, hk']
              rw [← this, ← HX.out]; exact hb
            · have hjl : j < l.length := by omega
              have := HK.out j hj
              rw [show l.getD j 0 = l[j] by simp [List.getD, hjl]] at this
              simp [this]
          unfold idxOf
          rw [e2])
        clear hb
        go_wp2
        go_ret
        exact ⟨by rw [HI.out]; rfl, _, rfl⟩
      | false =>
        have HK' : Hid (∀ j, j < k + 1 → ((P.proc (l.getD j 0)).pr == gr) = false) := Lib.hid fun j hj => by
          rcases Nat.lt_or_ge j k with h | h
          · exact HK.out j h
          · have : j = k := by omega
            subst this
            rw [← HX.out]; exact hb
        clear hb HK
        go_wp2
        go_roundw
        case rel => exact ⟨k + 1, by omega, by go_num, ⟨_, rfl⟩, HK'⟩
        case measure => simp [intOf]; omega
    · have hkn : k = n := by omega
      have HI : Hid (idxOf l (fun q => (P.proc q).pr == gr) = -1) := Lib.hid (by
        have e2 : l.findIdx? (fun q => (P.proc q).pr == gr) = none := by
          rw [List.findIdx?_eq_none_iff]
          intro y hy
          obtain ⟨j, hj, rfl⟩ := List.getElem_of_mem hy
          have := HK.out j (by rw [hkn, HN.out]; exact hj)
          rw [show l.getD j 0 = l[j] by simp [List.getD, hj]] at this
          simpa using this
        unfold idxOf
        rw [e2])
      subst hkn
      clear HK
      go_wp2
      go_ret
      exact ⟨by rw [HI.out]; rfl, _, rfl⟩
theorem find_idx (f : Nat → Bool) : ∀ l : List Nat, (match l.find? f with | none => (-1 : Int) | some p => (p : Int)) = match l.findIdx? f with | none => -1 | some k => ((l.getD k 0 : Nat) : Int)
  | [] => rfl
  | a :: l => by
    rw [List.find?_cons, List.findIdx?_cons]
    cases h : f a with
    | true => rfl
    | false =>
      have := find_idx f l
      simp only [Bool.false_eq_true, if_false]
      rw [this]
      cases l.findIdx? f <;> rfl
theorem idx_runI (P : PSet) : (idxOf P.ready (fun q => (P.proc q).pr == great P P.ready (-1)) = -1 ∧ runI P = -1) ∨ ∃ k, k < P.ready.length ∧ idxOf P.ready (fun q => (P.proc q).pr == great P P.ready (-1)) = (k : Nat) ∧ runI P = (P.ready.getD k 0 : Nat) := by
  have e := find_idx (fun q => (P.proc q).pr == great P P.ready (-1)) P.ready
  have e2 : runI P = match P.ready.find? (fun q => (P.proc q).pr == great P P.ready (-1)) with | none => (-1 : Int) | some p => (p : Int) := rfl
  rw [e2, e]
  unfold idxOf
  cases hf : P.ready.findIdx? (fun q => (P.proc q).pr == great P P.ready (-1)) with
  | none => exact .inl ⟨rfl, rfl⟩
  | some k =>
    obtain ⟨hk, _⟩ := List.findIdx?_eq_some_iff_getElem.1 hf
    exact .inr ⟨k, hk, rfl, rfl⟩
theorem zInt : ((Try.prog.info? 3).bind (·.zero)) = some (.int .i64 0) := by kernel_rfl
structure RunRel (w : World) (S b1 b3 : Nat) (P : PSet) (k : Nat) (wr : World) : Prop where
  below : Below w.heap.size w wr
  x1 : Blk wr b1 [.pointer (some ⟨S, 0, none⟩)]
  x3 : Blk wr b3 [.int .i64 (great P (P.ready.take k) (-1))]
set_option maxHeartbeats 1000000 in
theorem Running_calls (w : World) (S : Nat) (P : PSet) (A : Nat → Option Addr) (c : Nat → Nat) (h : SetM w S P A c) (h8 : P.ps.length ≤ 1000) (hr8 : P.ready.length ≤ 1000) (hin : ∀ q ∈ P.ready, q < P.ps.length) :
    Calls Try.prog 12 #[.pointer (some ⟨S, 0, none⟩)] w (RetIb w (runI P)) := by
  have HS := Lib.hid h
  have H8 := Lib.hid h8
  have HIN := Lib.hid hin
  obtain ⟨nr, hnr⟩ : ∃ n, n = P.ready.length := ⟨_, rfl⟩
  obtain ⟨b1, hb1⟩ : ∃ b, b = w.heap.size := ⟨_, rfl⟩
  have HNR := Lib.hid hnr
  rw [← hnr] at hr8
  clear h h8 hin hnr
  go_enter Try.func12, Try.ntmps12
  go_wp2_with ((with_reducible show wpList _ _ _ (Oper.mk _ (Op.box _ _) _ _ _ _ :: _) _ _); refine wpList_box1 rfl _ rfl (.pointer (some ⟨S, 0, none⟩)) rfl rfl ?_)
  intro w1 hx1 hg1 hs1
  rw [← hb1] at hx1 hs1 ⊢
  have HX1 := Lib.hid hx1
  have HB1 : Hid (Below w.heap.size w w1) := Lib.hid (grown_below hg1 (Nat.le_refl _) fun k e => by cases e)
  have HS1 := Lib.hid hs1
  have HBE := Lib.hid hb1
  clear hx1 hg1 hs1 hb1
  go_wp2_with ((with_reducible show wpList _ _ _ (Oper.mk _ (Op.alloc _) _ _ _ _ :: _) _ _); refine wpList_alloc1 (.int .i64 0) zInt rfl rfl rfl ?_)
  intro w2 hx3 hg2 hs2
  obtain ⟨b3, hb3⟩ : ∃ b, b = w1.heap.size := ⟨_, rfl⟩
  rw [← hb3] at hx3 hs2 ⊢
  have HX3 := Lib.hid hx3
  have HX2 : Hid (Blk w2 b1 [.pointer (some ⟨S, 0, none⟩)]) := Lib.hid (HX1.out.grown hg2 (by simp))
  have HB2 : Hid (Below w.heap.size w w2) := Lib.hid (HB1.out.trans (grown_below hg2 HB1.out.size fun k e => by cases e))
  have HS2 := Lib.hid hs2
  have HB3E : Hid (b3 = b1 + 1) := Lib.hid (by rw [hb3, HS1.out])
  clear hx3 hg2 hs2 hb3 HX1 HB1 HS1
  go_wp2_with ((with_reducible show wpList _ _ _ (Oper.mk _ (Op.store _ _ _) _ _ _ _ :: _) _ _); refine wpList_storeB rfl 3 _ _ rfl b3 0 [.int .i64 0] (.int .i64 (-1)) rfl rfl HX3.out (Nat.lt_succ_self 0) s1Int rfl ?_)
  intro w3 hx3 hg3
  have HX3' : Hid (Blk w3 b3 [.int .i64 (-1)]) := Lib.hid hx3
  have HX2' : Hid (Blk w3 b1 [.pointer (some ⟨S, 0, none⟩)]) := Lib.hid (HX2.out.grown hg3 (by intro e; injection e with e; have := HB3E.out; omega))
  have HB3 : Hid (Below w.heap.size w w3) := Lib.hid (HB2.out.trans (grown_below hg3 HB2.out.size fun k e => by injection e with e; have := HB3E.out; have := HBE.out; omega))
  have HRR0 : Hid (RunRel w S b1 b3 P 0 w3) := Lib.hid ⟨HB3.out, HX2'.out, HX3'.out⟩
  have c1 : w3.cell? ⟨b1, 0, none⟩ = some (.pointer (some ⟨S, 0, none⟩)) := HX2'.out.cell rfl
  have c2 : w3.cell? ⟨S, 2, none⟩ = some (.slice (A 2) nr (c 2)) := by rw [HNR.out]; exact (HS.out.below HB3.out).head
  clear hx3 hg3 HX3 HX2 HB2 HX3' HX2' HB3 HS2
  go_wp2
  clear c1 c2
  go_loopw [5, 12] (fun _ i wr => ∃ k : Nat, k ≤ nr ∧ i = .int .i64 k ∧ RunRel w S b1 b3 P k wr) (fun _ i _ => nr - (intOf i).toNat)
  case atStart => exact ⟨0, Nat.zero_le _, rfl, HRR0.out⟩
  case round =>
    obtain ⟨k, hk, rfl, hrr⟩ := hrel
    have HRR := Lib.hid hrr
    clear hrr HRR0
    by_cases hlt : k < nr
    · have HM : Hid (SetM wr S P A c) := Lib.hid (HS.out.below HRR.out.below)
      have hkl2 : k < P.ready.length := by rw [← HNR.out]; exact hlt
      have hkl : k < (nums P.ready).length := by rw [nums_len]; exact hkl2
      obtain ⟨g2, hA2, _, hc2, _⟩ := HM.out.rd.at hkl
      obtain ⟨q, hq⟩ : ∃ x, x = P.ready.getD k 0 := ⟨_, rfl⟩
      have hqk : P.ready[k] = q := by rw [hq]; simp [List.getD, hkl2]
      have c3 : wr.cell? ⟨g2, k, none⟩ = some (.int .i64 (q : Int)) := by rw [hc2]; simp [nums, hqk]
      have hqn : q < P.ps.length := HIN.out q (by rw [← hqk]; exact List.getElem_mem _)
      obtain ⟨g, hA, _⟩ := HM.out.pcell hqn
      obtain ⟨n, hn⟩ : ∃ n, n = P.ps.length := ⟨_, rfl⟩
      obtain ⟨gr, hgr⟩ : ∃ x, x = great P (P.ready.take k) (-1) := ⟨_, rfl⟩
      obtain ⟨pq, hpq⟩ : ∃ x, x = (P.proc q).pr := ⟨_, rfl⟩
      have K0 : Hid (∀ w', Below wr.drew.heap.size wr.drew w' → w'.cell? ⟨S, 0, none⟩ = some (.slice (some ⟨g, 0, none⟩) n (c 0))) := Lib.hid fun w' hb' => (HM.out.drew.below hb').head0 hA hn
      have K1 : Hid (∀ w', Below wr.drew.heap.size wr.drew w' → w'.cell? ⟨b1, 0, none⟩ = some (.pointer (some ⟨S, 0, none⟩))) := Lib.hid fun w' hb' => (HRR.out.x1.drew.below hb' HRR.out.x1.lt).cell rfl
      have K3 : Hid (∀ w', Below wr.drew.heap.size wr.drew w' → w'.cell? ⟨b3, 0, none⟩ = some (.int .i64 gr)) := Lib.hid fun w' hb' => by rw [hgr]; exact (HRR.out.x3.drew.below hb' HRR.out.x3.lt).cell rfl
      have KQ : Hid (∀ w', Below wr.drew.heap.size wr.drew w' → w'.cell? ⟨g, q * 8, none⟩ = some (.int .i64 pq)) := Lib.hid fun w' hb' => by rw [hpq]; exact (HM.out.drew.below hb').pget (f := 0) hqn hA rfl
      have HGS : Hid (great P (P.ready.take (k + 1)) (-1) = max gr pq) := Lib.hid (by
        rw [List.take_succ_eq_append_getElem hkl2, great_snoc, hqk, ← hgr, ← hpq])
      have hqn' : q < n := by rw [hn]; exact hqn
      have hn8 : n ≤ 1000 := by rw [hn]; exact H8.out
      have HA2 := Lib.hid hA2
      have HGR := Lib.hid hgr
      rw [hA2]
      clear hA2 hkl2 hkl hc2 hq hqk hqn hA hn hgr hpq
      go_wp2_with fail
      clear c3
      refine region_tails 10 (fun ix9 => ([.is (.int .i64 gr), .is (.pointer (some ⟨S, 0, none⟩)), .is (.pointer (some ⟨S, 0, none⟩)), .is (.pointer (some ⟨S, 0, none⟩)), .is (.slice (some ⟨g, 0, none⟩) n (c 0)), .is (.int .i64 (q : Int)), .is (.pointer (some ⟨g, q * 8, none⟩)), .is (.pointer (some ⟨g, q * 8, none⟩)), .is (.int .i64 pq), .is (.int .i64 (max gr pq))] : List VD).getD ix9 (.is undef)) [some 16, some 17, some 18, some 19, some 20, some 21, some 22, some 23, some 24, some 25] (by kernel_rfl) (by kernel_rfl) (by kernel_rfl) (by kernel_rfl) rfl (fun ii hii => ?_) ?_
      · match ii, hii with
        | 0, _ => exact mstep_pure rfl (mwant_none rfl) (fun aa ww cc => ⟨.int .i64 gr, by have e0 : aa.tmps.getD 3 undef = .pointer (some ⟨b3, 0, none⟩) := (cc.orig 3 (by kernel_rfl)).trans rfl; have q3 := K3.out _ cc.below; simp only [execOp, Act.eval, e0]; go_simp, rfl⟩)
        | 1, _ => exact mstep_pure rfl (mwant_none rfl) (fun aa ww cc => ⟨.pointer (some ⟨S, 0, none⟩), by have e0 : aa.tmps.getD 1 undef = .pointer (some ⟨b1, 0, none⟩) := (cc.orig 1 (by kernel_rfl)).trans rfl; have q1 := K1.out _ cc.below; simp only [execOp, Act.eval, e0]; go_simp, rfl⟩)
        | 2, _ => exact mstep_pure rfl (mwant_none rfl) (fun aa ww cc => ⟨.pointer (some ⟨S, 0, none⟩), by have e0 : aa.tmps.getD 17 undef = .pointer (some ⟨S, 0, none⟩) := cc.slot 1 17 (by kernel_rfl) rfl; simp only [execOp, Act.eval, e0]; go_simp, rfl⟩)
        | 3, _ => exact mstep_pure rfl (mwant_none rfl) (fun aa ww cc => ⟨.pointer (some ⟨S, 0, none⟩), by have e0 : aa.tmps.getD 18 undef = .pointer (some ⟨S, 0, none⟩) := cc.slot 2 18 (by kernel_rfl) rfl; simp only [execOp, Act.eval, e0]; go_simp, rfl⟩)
        | 4, _ => exact mstep_pure rfl (mwant_none rfl) (fun aa ww cc => ⟨.slice (some ⟨g, 0, none⟩) n (c 0), by have e0 : aa.tmps.getD 19 undef = .pointer (some ⟨S, 0, none⟩) := cc.slot 3 19 (by kernel_rfl) rfl; have q0 := K0.out _ cc.below; simp only [execOp, Act.eval, e0]; go_simp, rfl⟩)
        | 5, _ => exact mstep_first rfl (mwant_none rfl) 5 (Or.inl rfl) (by kernel_rfl) (fun _ _ => rfl)
        | 6, _ => exact mstep_pure rfl (mwant_none rfl) (fun aa ww cc => ⟨.pointer (some ⟨g, q * 8, none⟩), by have e0 : aa.tmps.getD 20 undef = .slice (some ⟨g, 0, none⟩) n (c 0) := cc.slot 4 20 (by kernel_rfl) rfl; have e1 : aa.tmps.getD 21 undef = .int .i64 (q : Int) := cc.slot 5 21 (by kernel_rfl) rfl; simp only [execOp, Act.eval, e0, e1]; go_simp, rfl⟩)
        | 7, _ => exact mstep_pure rfl (mwant_none rfl) (fun aa ww cc => ⟨.pointer (some ⟨g, q * 8, none⟩), by have e0 : aa.tmps.getD 22 undef = .pointer (some ⟨g, q * 8, none⟩) := cc.slot 6 22 (by kernel_rfl) rfl; simp only [execOp, Act.eval, e0]; go_simp, rfl⟩)
        | 8, _ => exact mstep_pure rfl (mwant_none rfl) (fun aa ww cc => ⟨.int .i64 pq, by have e0 : aa.tmps.getD 23 undef = .pointer (some ⟨g, q * 8, none⟩) := cc.slot 7 23 (by kernel_rfl) rfl; have q0 := KQ.out _ cc.below; simp only [execOp, Act.eval, e0]; go_simp, rfl⟩)
        | 9, _ => exact mstep_pure rfl (mwant_none rfl) (fun aa ww cc => ⟨.int .i64 (max gr pq), by have e0 : aa.tmps.getD 16 undef = .int .i64 gr := cc.slot 0 16 (by kernel_rfl) rfl; have e1 : aa.tmps.getD 24 undef = .int .i64 pq := cc.slot 8 24 (by kernel_rfl) rfl; simp only [execOp, Act.eval, e0, e1]; go_simp, rfl⟩)
        | n + 10, h => exact absurd h (by show ¬ (n + 10 < 10); omega)
      · intro VV w5 hlen hb5 hok
        match VV, hlen with
        | [v0, v1, v2, v3, v4, v5, v6, v7, v8, v9], _ =>
          obtain rfl : v0 = .int .i64 gr := hok 0 16 rfl
          obtain rfl : v1 = .pointer (some ⟨S, 0, none⟩) := hok 1 17 rfl
          obtain rfl : v2 = .pointer (some ⟨S, 0, none⟩) := hok 2 18 rfl
          obtain rfl : v3 = .pointer (some ⟨S, 0, none⟩) := hok 3 19 rfl
          obtain rfl : v4 = .slice (some ⟨g, 0, none⟩) n (c 0) := hok 4 20 rfl
          obtain rfl : v5 = .int .i64 (q : Int) := hok 5 21 rfl
          obtain rfl : v6 = .pointer (some ⟨g, q * 8, none⟩) := hok 6 22 rfl
          obtain rfl : v7 = .pointer (some ⟨g, q * 8, none⟩) := hok 7 23 rfl
          obtain rfl : v8 = .int .i64 pq := hok 8 24 rfl
          obtain rfl : v9 = .int .i64 (max gr pq) := hok 9 25 rfl
          have HB5 : Hid (Below w.heap.size w w5) := Lib.hid (HRR.out.below.trans (hb5.mono HRR.out.below.size))
          have X1 : Hid (Blk w5 b1 [.pointer (some ⟨S, 0, none⟩)]) := Lib.hid (HRR.out.x1.below hb5 HRR.out.x1.lt)
          have X3 : Hid (Blk w5 b3 [.int .i64 gr]) := Lib.hid (by rw [HGR.out]; exact HRR.out.x3.below hb5 HRR.out.x3.lt)
          clear hb5 K0 K1 K3 KQ HRR hok
          simp only [List.zip_cons_cons, List.zip_nil_right, putsL]
          go_simp
          go_wp2_with ((with_reducible show wpList _ _ _ (Oper.mk _ (Op.store _ _ _) _ _ _ _ :: _) _ _); refine wpList_storeB rfl 3 _ _ rfl b3 0 [.int .i64 gr] (.int .i64 (max gr pq)) rfl rfl X3.out (Nat.lt_succ_self 0) s1Int rfl ?_)
          intro w6 hx6 hg6
          have HR6 : Hid (RunRel w S b1 b3 P (k + 1) w6) := Lib.hid ⟨HB5.out.trans (grown_below hg6 HB5.out.size fun k e => by injection e with e; have := HB3E.out; have := HBE.out; omega), X1.out.grown hg6 (by intro e; injection e with e; have := HB3E.out; omega), by rw [HGS.out]; exact hx6⟩
          clear hx6 hg6 X1 X3 HB5 HGS
          go_wp2
          go_roundw
          case rel => exact ⟨k + 1, by omega, by go_num, HR6.out⟩
          case measure => simp [intOf]; omega
    · have hkn : k = nr := by omega
      subst hkn
      have HM : Hid (SetM wr S P A c) := Lib.hid (HS.out.below HRR.out.below)
      have X1 : Hid (wr.cell? ⟨b1, 0, none⟩ = some (.pointer (some ⟨S, 0, none⟩))) := Lib.hid (HRR.out.x1.cell rfl)
      have X3 : Hid (wr.cell? ⟨b3, 0, none⟩ = some (.int .i64 (great P P.ready (-1)))) := Lib.hid (by
        have := HRR.out.x3.cell (j := 0) rfl
        rw [HNR.out, List.take_length] at this
        exact this)
      have HB : Hid (Below w.heap.size w wr) := Lib.hid HRR.out.below
      have hmf : ∀ (fn : Fn) (first cap : Array Value) (w : World), (Instr.makeFunc fn first cap).run Try.prog w = .ok (.func fn first cap) w := fun _ _ _ _ => rfl
      have c1 : wr.cell? ⟨b1, 0, none⟩ = some (.pointer (some ⟨S, 0, none⟩)) := X1.out
      have c2 : wr.cell? ⟨S, 2, none⟩ = some (.slice (A 2) k (c 2)) := by rw [HNR.out]; exact HM.out.head
      clear HRR
      go_wp2_with fail
      refine (index_run wr S b1 b3 P A c HM.out H8.out X1.out _ X3.out (A 2) (c 2) P.ready k HNR.out HM.out.rd hr8 HIN.out).mono ?_
      rintro e w1 ⟨rfl, d, rfl⟩
      rcases idx_runI P with ⟨hi, hu⟩ | ⟨j, hj, hi, hu⟩
      · rw [hi]
        have HU := Lib.hid hu
        clear hi hu
        go_wp2
        go_ret
        exact ⟨by rw [HU.out]; rfl, below_drewN' HB.out _⟩
      · rw [hi]
        have HU := Lib.hid hu
        have hjk : j < k := by rw [HNR.out]; exact hj
        obtain ⟨g2, hA2, _, hc2, _⟩ := HM.out.rd.at (j := j) (by rw [nums_len]; exact hj)
        have c3 : (wr.drewN d).cell? ⟨g2, j, none⟩ = some (.int .i64 ((P.ready.getD j 0 : Nat) : Int)) := by
          show wr.cell? _ = _
          rw [hc2]; simp [nums, List.getD, hj]
        obtain ⟨q, hq⟩ : ∃ x, x = ((P.ready.getD j 0 : Nat) : Int) := ⟨_, rfl⟩
        rw [← hq] at c3 hu
        have HU := Lib.hid hu
        rw [hA2] at c2
        clear hi hu hA2 hc2 hj hq
        go_wp2
        go_ret
        exact ⟨by rw [HU.out]; rfl, below_drewN' HB.out _⟩
end Go.Proofs.Ytgeffkdobnipgaa
