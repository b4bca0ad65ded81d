/- Bundle 5 of the texts ProcDel, App, ProcQueue, ProcTake. -/
import Derived.Test.YtgeffkdobnipgaaMg4
import Derived.Laws.OwnMore
import Derived.Test.YtgeffkdobnipgaaProg
import Derived.Test.YtgeffkdobnipgaaMg1
import Derived.Lib.Hide
import Derived.Maps.AppendAt
import Derived.Deep.OwnRows
import Derived.Lib.LazyBuf
/- slices.Delete of the first item; slices.Clone; Queue. -/
namespace Go.Proofs.Ytgeffkdobnipgaa
open Go.RowKit Nac Nac.Procs
theorem Try.infoI64 : (Try.prog.info? 2).map (fun i => (i.zero, i.size, i.bytes)) = some (some (.int .i64 0), 1, 8) := by kernel_rfl
theorem zeroI64 (w : World) : (zeroValue 2).run Try.prog w = .ok (.int .i64 0) w := by kernel_rfl
/-- a cut of items -/
theorem run_cutI (w : World) (A : Option Addr) (n c : Nat) (hlc : n ≤ c) (lv hv : Option Value) (lo hi : Nat) (h1 : (lv = none ∧ lo = 0) ∨ lv = some (.int .i64 lo)) (h2 : (hv = none ∧ hi = n) ∨ hv = some (.int .i64 hi)) (hle : lo ≤ hi) (hhl : hi ≤ c) :
    (Instr.sliceAt 56 (.slice A n c) lv hv none).run Try.prog w = .ok (.slice (if c = lo then A else A.map (·.add (lo * 1))) (hi - lo) (c - lo)) w := by
  have hu := Try.underlying56
  have hc1 : (sizeOf 2).run Try.prog w = .ok 1 w := by
    obtain ⟨i, hi, _, hs, _⟩ := info_parts Try.infoI64
    simp [sizeOf, typeInfo, hi, hs]
  have a6 : lo ≤ c := by omega
  rcases h1 with ⟨rfl, rfl⟩ | rfl <;> rcases h2 with ⟨rfl, rfl⟩ | rfl <;>
    simp [Instr.sliceAt, Instr.slice, run_underlying hu, Instr.sliceBounds, Instr.sliceBound, asIntOf, hc1, hhl, a6, hle]
def wits (l : List Int) : List Value := l.map (Value.int .i64)
theorem wits_one (l : List Int) : ∀ u ∈ wits l, u.oneCell' = true := fun u hu => by
  obtain ⟨x, _, rfl⟩ := List.mem_map.1 hu
  rfl
def RetDelI (w : World) (A : Option Addr) (c : Nat) (L : List Int) (e : Ending) (w' : World) : Prop :=
  e = .returned (.slice A L.length c) ∧ Row w' 2 1 A c L.length (wits L) ∧ w.grownBy w' (A.map (·.block))
theorem wpList_append_fits {T E : TypeId} {z : Value} {bytes : Nat} (hT : Try.prog.underlying T = some (.slice E)) (hinfo : (Try.prog.info? E).map (fun i => (i.zero, i.size, i.bytes)) = some (some z, 1, bytes))
    (w : World) {ops : Array Oper} {rest : List Oper} {o : Oper} {a : Act} {Q : Exit → Act → World → Prop} (hgd : o.guard = none) (s x : Operand)
    (ho : o.op = .call { callee := .builtin .append, args := #[s, x], argTypes := #[T, T] })
    (g c n : Nat) (xs : List Value) (hs : a.eval s = .slice (some ⟨g, 0, none⟩) n c) (hown : Row w E 1 (some ⟨g, 0, none⟩) c n xs)
    (g2 o2 m c2 : Nat) (news : List Value) (hx : a.eval x = .slice (some ⟨g2, o2, none⟩) m c2) (hl : news.length = m) (hsrc : ∀ j u, news[j]? = some u → w.cell? ⟨g2, o2 + j, none⟩ = some u) (h1 : ∀ u ∈ news, u.oneCell' = true)
    (hroom : n + m ≤ c) (k : Nat) (hk : n + m = k)
    (h : ∀ w', Row w' E 1 (some ⟨g, 0, none⟩) c k (xs ++ news) → w.grownBy w' (some g) → wpList Try.prog ops Q rest (a.put o.dst (.slice (some ⟨g, 0, none⟩) k c)) w') : wpList Try.prog ops Q (o :: rest) a w := by
  subst hk
  obtain ⟨i, hi, hz, hs1, hb1⟩ := info_parts hinfo
  obtain ⟨w', hr, h2, h3⟩ := run_append_fits (P := Try.prog) w 0 T o.type E i 1 hT hi hs1 g n c xs hown ⟨g2, o2, none⟩ m c2 news (by rw [hl, Nat.mul_one]) (fun j u hj => by
    have := hsrc j u hj
    rw [Addr.add_mid]
    exact this) h1 hroom
  have hK := h w' h2 h3
  refine wpList_plain hgd fun K hKK => ?_
  unfold Oper.wp execOp
  simp only [ho, resolve, invoke, builtin, Sem.run_bind, Sem.run_pure, Result.andThen_ok, List.map_toArray, List.map_cons, List.map_nil, hs, hx, hr]
  exact hKK _ _ hK
theorem row_spare {w : World} {E : TypeId} {g c n k : Nat} {xs : List Value} (h : Row w E 1 (some ⟨g, 0, none⟩) c n xs) (hk : k < c) : ∃ v, w.cell? ⟨g, k, none⟩ = some v := by
  rcases h.2 with ⟨h1, _⟩ | ⟨g', cap, cur, hv, _, hg, _, _, hcs, _⟩
  · simp at h1
  · injection hv with h1 h2 h3
    injection h1 with h1
    injection h1 with h1
    subst h1 h3
    refine ⟨cur[k]'(by rw [hcs]; omega), ?_⟩
    rw [cell_of_row w g k _ E (0, 0) hg]
    simp [(show k < cur.size by rw [hcs]; omega)]
theorem row_free {w : World} {E : TypeId} {g c n k : Nat} {xs : List Value} (h : Row w E 1 (some ⟨g, 0, none⟩) c n xs) : w.frozen? ⟨g, k, none⟩ = false := World.ownsRow.frozenAt h k
theorem grown_of_below {w w' : World} {row : Option Nat} (h : Below w.heap.size w w') : w.grownBy w' row := ⟨h.os, h.tape, h.output, h.size, fun k hk _ => h.block k hk⟩
set_option maxHeartbeats 1000000 in
theorem delete_first (w : World) (A : Option Addr) (c : Nat) (x : Int) (L : List Int) (n : Nat) (hn : n = L.length + 1) (hr : Row w 2 1 A c (x :: L).length (wits (x :: L))) (h8 : n ≤ 1000) :
    Calls Try.prog 33 #[.slice A n c, .int .i64 0, .int .i64 1] w (RetDelI w A c L) := by
  obtain ⟨g, hA, hg, hc0, hf⟩ := hr.at (j := 0) (by simp [wits])
  have hcap : n ≤ c := by have := hr.cap; simp at this; omega
  have h1n : 1 ≤ n := by omega
  subst hA
  obtain ⟨m, hm⟩ : ∃ m, m = L.length := ⟨_, rfl⟩
  have hmn : n = m + 1 := by omega
  have hmc : m < c := by omega
  have HN := Lib.hid hn
  have HM := Lib.hid hm
  have HMN := Lib.hid hmn
  have HR := Lib.hid hr
  have SL1 : Hid (∀ w, (Instr.sliceAt 56 (.slice (some ⟨g, 0, none⟩) n c) none (some (.int .i64 0)) none).run Try.prog w = .ok (.slice (some ⟨g, 0, none⟩) 0 c) w) := Lib.hid fun w => by
    have := run_cutI w (some ⟨g, 0, none⟩) n c hcap none (some (.int .i64 ((0 : Nat) : Int))) 0 0 (.inl ⟨rfl, rfl⟩) (.inr rfl) (by omega) (by omega)
    rw [if_neg (by omega)] at this
    exact this
  obtain ⟨o2, ho2, SL2⟩ : ∃ o2 : Nat, (n ≠ 1 → o2 = 1) ∧ Hid (∀ w, (Instr.sliceAt 56 (.slice (some ⟨g, 0, none⟩) n c) (some (.int .i64 1)) none none).run Try.prog w = .ok (.slice (some ⟨g, o2, none⟩) m (c - 1)) w) := by
    by_cases hc1 : c = 1
    · refine ⟨0, fun h => by omega, Lib.hid fun w => ?_⟩
      have := run_cutI w (some ⟨g, 0, none⟩) n c hcap (some (.int .i64 ((1 : Nat) : Int))) none 1 n (.inr rfl) (.inl ⟨rfl, rfl⟩) (by omega) (by omega)
      rw [if_pos hc1, show n - 1 = m by omega] at this
      exact this
    · refine ⟨1, fun _ => rfl, Lib.hid fun w => ?_⟩
      have := run_cutI w (some ⟨g, 0, none⟩) n c hcap (some (.int .i64 ((1 : Nat) : Int))) none 1 n (.inr rfl) (.inl ⟨rfl, rfl⟩) (by omega) (by omega)
      rw [if_neg hc1, show n - 1 = m by omega] at this
      exact this
  have SL3 : Hid (∀ w, (Instr.sliceAt 56 (.slice (some ⟨g, 0, none⟩) m c) (some (.int .i64 (m : Int))) (some (.int .i64 (n : Int))) none).run Try.prog w = .ok (.slice (some ⟨g, m, none⟩) 1 (c - m)) w) := Lib.hid fun w => by
    have := run_cutI w (some ⟨g, 0, none⟩) m c (by omega) (some (.int .i64 (m : Int))) (some (.int .i64 (n : Int))) m n (.inr rfl) (.inr rfl) (by omega) (by omega)
    rw [if_neg (by omega)] at this
    rw [this]
    have e1 : n - m = 1 := by omega
    have e2 : (some (⟨g, 0, none⟩ : Addr)).map (·.add (m * 1)) = some ⟨g, m, none⟩ := by rw [Option.map_some, Nat.mul_one, Addr.add_mid, Nat.zero_add]
    rw [e1, e2]
  have HO2 := Lib.hid ho2
  have hmn2 : m < n := by omega
  clear hn hr hc0 hg hf ho2 hm hmn
  go_enter Try.func33, Try.ntmps33
  go_wp2_with fail
  refine region_tails 6 (fun ix9 => ([.is (.slice (some ⟨g, 0, none⟩) n c), .is (.int .i64 0), .is (.slice (some ⟨g, 0, none⟩) 0 c), .is (.slice (some ⟨g, 0, none⟩) n c), .is (.int .i64 1), .is (.slice (some ⟨g, o2, none⟩) m (c - 1))] : List VD).getD ix9 (.is undef)) [some 20, some 21, some 22, some 23, some 24, some 25] (by kernel_rfl) (by kernel_rfl) (by kernel_rfl) (by kernel_rfl) rfl (fun ii hii => ?_) ?_
  · match ii, hii with
    | 0, _ => exact mstep_first rfl (mwant_none rfl) 0 (Or.inl rfl) (by kernel_rfl) (fun _ _ => rfl)
    | 1, _ => exact mstep_first rfl (mwant_none rfl) 1 (Or.inl rfl) (by kernel_rfl) (fun _ _ => rfl)
    | 2, _ => exact mstep_pure rfl (mwant_none rfl) (fun aa ww cc => ⟨.slice (some ⟨g, 0, none⟩) 0 c, by have e0 : aa.tmps.getD 20 undef = .slice (some ⟨g, 0, none⟩) n c := cc.slot 0 20 (by kernel_rfl) rfl; have e1 : aa.tmps.getD 21 undef = .int .i64 0 := cc.slot 1 21 (by kernel_rfl) rfl; have q := SL1.out ww; simp only [execOp, Act.eval, e0, e1, Option.map_some, Option.map_none]; go_simp, rfl⟩)
    | 3, _ => exact mstep_first rfl (mwant_none rfl) 0 (Or.inl rfl) (by kernel_rfl) (fun _ _ => rfl)
    | 4, _ => exact mstep_first rfl (mwant_none rfl) 2 (Or.inl rfl) (by kernel_rfl) (fun _ _ => rfl)
    | 5, _ => exact mstep_pure rfl (mwant_none rfl) (fun aa ww cc => ⟨.slice (some ⟨g, o2, none⟩) m (c - 1), by have e0 : aa.tmps.getD 23 undef = .slice (some ⟨g, 0, none⟩) n c := cc.slot 3 23 (by kernel_rfl) rfl; have e1 : aa.tmps.getD 24 undef = .int .i64 1 := cc.slot 4 24 (by kernel_rfl) rfl; have q := SL2.out ww; simp only [execOp, Act.eval, e0, e1, Option.map_some, Option.map_none]; go_simp, rfl⟩)
    | n + 6, h => exact absurd h (by show ¬ (n + 6 < 6); omega)
  · intro VV w5 hlen hb5 hok
    match VV, hlen with
    | [v0, v1, v2, v3, v4, v5], _ =>
      obtain rfl : v0 = .slice (some ⟨g, 0, none⟩) n c := hok 0 20 rfl
      obtain rfl : v1 = .int .i64 0 := hok 1 21 rfl
      obtain rfl : v2 = .slice (some ⟨g, 0, none⟩) 0 c := hok 2 22 rfl
      obtain rfl : v3 = .slice (some ⟨g, 0, none⟩) n c := hok 3 23 rfl
      obtain rfl : v4 = .int .i64 1 := hok 4 24 rfl
      obtain rfl : v5 = .slice (some ⟨g, o2, none⟩) m (c - 1) := hok 5 25 rfl
      have HB5 := Lib.hid hb5
      clear hb5 hok
      simp only [List.zip_cons_cons, List.zip_nil_right, putsL]
      go_simp
      have HR5 : Hid (Row w5 2 1 (some ⟨g, 0, none⟩) c n (wits (x :: L))) := Lib.hid (by rw [HN.out]; exact HR.out.below HB5.out)
      have HR0 : Hid (Row w5 2 1 (some ⟨g, 0, none⟩) c 0 []) := Lib.hid (by have := HR5.out.short 0 (Nat.zero_le _); simpa using this)
      have HSRC : Hid (∀ j u, (wits L)[j]? = some u → w5.cell? ⟨g, o2 + j, none⟩ = some u) := Lib.hid fun j u hj => by
        have hjl : j < (wits L).length := (List.getElem?_eq_some_iff.1 hj).1
        have hjl2 : j < L.length := by simpa [wits] using hjl
        obtain ⟨g', hA', _, hc, _⟩ := HR5.out.at (j := j + 1) (by simp [wits]; exact hjl2)
        injection hA' with hA'
        injection hA' with hA'
        subst hA'
        rw [HO2.out (by rw [HN.out]; omega), Nat.add_comm, hc]
        rw [List.getElem?_eq_getElem hjl] at hj
        have := Option.some.inj hj
        rw [← this]
        simp [wits]
      have HLL : Hid ((wits L).length = m) := Lib.hid (by rw [HM.out]; simp [wits])
      go_wp2_with (at_builtin; refine wpList_append_fits Try.underlying56 Try.infoI64 _ rfl _ _ rfl g c 0 [] rfl HR0.out g o2 m (c - 1) (wits L) rfl HLL.out HSRC.out (wits_one L) (by omega) m (Nat.zero_add m) ?_)
      intro w6 hr6 hg6
      have HR6 : Hid (Row w6 2 1 (some ⟨g, 0, none⟩) c m (wits L)) := Lib.hid hr6
      have HCAP : Hid (∃ v, w6.cell? ⟨g, m, none⟩ = some v) := Lib.hid (by
        obtain ⟨g', hA', _, hc, _⟩ := HR5.out.at (j := m) (by rw [HM.out]; simp [wits])
        injection hA' with hA'
        injection hA' with hA'
        subst hA'
        exact row_spare hr6 hmc)
      have HG6 := Lib.hid hg6
      have HF6 : Hid (w6.frozen? ⟨g, m, none⟩ = false) := Lib.hid (row_free hr6)
      clear hr6 hg6 HR5 HR0 HSRC HLL SL1 SL2
      have q3 := SL3.out
      have hcl : ∀ ty, (Builtin.clear_ #[56] ty #[.slice (some ⟨g, m, none⟩) 1 (c - m)]).run Try.prog w6 = .ok (.tuple #[]) (w6.setCells g m (List.replicate 1 (.int .i64 0))) := fun ty =>
        Lib.run_clear_slice w6 56 2 ty (.int .i64 0) Try.underlying56 zeroI64 rfl rfl g m 1 (c - m) (by omega) (fun t ht => by
          obtain rfl : t = 0 := by omega
          obtain ⟨v, hv⟩ := HCAP.out
          rw [Nat.add_zero, hv]; rfl) (fun t ht => by
          obtain rfl : t = 0 := by omega
          exact HF6.out)
      go_wp2
      go_ret
      unfold RetDelI
      rw [← HM.out]
      exact ⟨rfl, HR6.out.setOut _ m (Nat.le_refl _), (grown_of_below HB5.out).trans (HG6.out.trans (by simpa using grown_setCells g (List.replicate 1 (.int .i64 0)) m w6))⟩
end Go.Proofs.Ytgeffkdobnipgaa
/- append of a row onto a row, over whatever program. -/
namespace Go.Proofs.Ytgeffkdobnipgaa
open Go.RowKit Nac
section
variable {P : Program} (w : World)
/-- the cells of a source: asked for where there is one -/
def Src (w : World) (A : Option Addr) (news : List Value) : Prop := news ≠ [] → ∃ ad, A = some ad ∧ ∀ j u, news[j]? = some u → w.cell? (ad.add j) = some u
theorem own_form {base : Nat} {e : TypeId} {size : Nat} {v : Value} {n : Nat} {xs : List Value} (h : w.ownsRow base e size v n xs) : ∃ A c, v = .slice A n c := by
  rcases h.2 with ⟨rfl, rfl⟩ | ⟨g, cap, cur, rfl, _⟩
  · exact ⟨_, _, rfl⟩
  · exact ⟨_, _, rfl⟩
theorem run_app_none (base : Nat) (t ty e : TypeId) (i : TypeInfo) (size : Nat) (ht : P.underlying t = some (.slice e)) (hi : P.info? e = some i)
    (v : Value) (n : Nat) (xs : List Value) (hown : w.ownsRow base e size v n xs) (c : Nat) : (Builtin.append_ #[t, t] ty #[v, .slice none 0 c]).run P w = .ok v w := by
  rcases hown.2 with ⟨rfl, rfl⟩ | ⟨g, cap, cur, rfl, _, _, hnc, _⟩
  · simp [Builtin.append_, run_underlying ht, sizeOf, typeInfo, hi, Builtin.lenOf, Builtin.firstCells]
  · simp [Builtin.append_, run_underlying ht, sizeOf, typeInfo, hi, Builtin.lenOf, Builtin.firstCells, hnc, storeCells]
theorem run_app (base : Nat) (t ty e : TypeId) (z : Value) (size bytes : Nat) (ht : P.underlying t = some (.slice e)) (hinfo : (P.info? e).map (fun i => (i.zero, i.size, i.bytes)) = some (some z, size, bytes))
    (hzs : z.cells.size = size) (hsz : 0 < size) (A : Option Addr) (n c : Nat) (xs : List Value) (hown : w.ownsRow base e size (.slice A n c) n xs)
    (A2 : Option Addr) (m c2 : Nat) (news : List Value) (hl : news.length = m * size) (hs : Src w A2 news) (h1 : ∀ u ∈ news, u.oneCell' = true)
    (hbytes : (n + m) * bytes ≤ 140737488355328) (h63 : n + m ≤ maxLen) (hbase : base ≤ w.heap.size) :
    ∃ A' c' w', (Builtin.append_ #[t, t] ty #[.slice A n c, .slice A2 m c2]).run P w = .ok (.slice A' (n + m) c') w' ∧ w'.ownsRow base e size (.slice A' (n + m) c') (n + m) (xs ++ news) ∧
      w.grownBy w' (A.map (·.block)) ∧ (A'.map (·.block) = A.map (·.block) ∨ A'.map (·.block) = some w.heap.size) := by
  obtain ⟨i, hi, hz, hs1, hb1⟩ := info_parts hinfo
  have eb : Value.ownBlock (.slice A n c) = A.map (·.block) := by cases A <;> rfl
  rcases A2 with _ | ad
  · have hnews : news = [] := by
      apply Classical.byContradiction
      intro hne
      obtain ⟨ad, h, _⟩ := hs hne
      cases h
    subst hnews
    have hm : m = 0 := by
      rcases Nat.eq_zero_or_pos m with h | h
      · exact h
      · have := Nat.mul_pos h hsz
        simp at hl
        omega
    subst hm
    exact ⟨A, c, w, run_app_none w base t ty e i size ht hi _ n xs hown c2, by simpa using hown, World.grownBy.refl w _, .inl rfl⟩
  · have hc : ∀ j u, news[j]? = some u → w.cell? (ad.add j) = some u := by
      intro j u hu
      obtain ⟨ad', h, hh⟩ := hs (by rintro rfl; simp at hu)
      injection h with h
      subst h
      exact hh j u hu
    obtain ⟨v', w', hr, h2, h3, _, h5⟩ := run_append_own_at (P := P) w base t ty e i z size bytes ht hi hz hs1 hb1 hzs hsz _ n xs hown ad m c2 news hl hc h1 h63 hbytes hbase
    obtain ⟨A', c', rfl⟩ := own_form w' h2
    have eb' : Value.ownBlock (.slice A' (n + m) c') = A'.map (·.block) := by cases A' <;> rfl
    rw [eb] at h3 h5
    rw [eb'] at h5
    exact ⟨A', c', w', hr, h2, h3, h5⟩
theorem wpList_app {ops : Array Oper} {rest : List Oper} {o : Oper} {a : Act} {Q : Exit → Act → World → Prop} (hgd : o.guard = none) (s x : Operand) (t : TypeId)
    (ho : o.op = .call { callee := .builtin .append, args := #[s, x], argTypes := #[t, t] })
    (base : Nat) (e : TypeId) (z : Value) (size bytes : Nat) (ht : P.underlying t = some (.slice e)) (hinfo : (P.info? e).map (fun i => (i.zero, i.size, i.bytes)) = some (some z, size, bytes))
    (hzs : z.cells.size = size) (hsz : 0 < size) (A : Option Addr) (n c : Nat) (xs : List Value) (hs : a.eval s = .slice A n c) (hown : w.ownsRow base e size (.slice A n c) n xs)
    (A2 : Option Addr) (m c2 : Nat) (news : List Value) (hx : a.eval x = .slice A2 m c2) (hl : news.length = m * size) (hsrc : Src w A2 news) (h1 : ∀ u ∈ news, u.oneCell' = true)
    (hbytes : (n + m) * bytes ≤ 140737488355328) (h63 : n + m ≤ maxLen) (hbase : base ≤ w.heap.size)
    (h : ∀ A' c' w', w'.ownsRow base e size (.slice A' (n + m) c') (n + m) (xs ++ news) → w.grownBy w' (A.map (·.block)) → (A'.map (·.block) = A.map (·.block) ∨ A'.map (·.block) = some w.heap.size) →
      wpList P ops Q rest (a.put o.dst (.slice A' (n + m) c')) w') : wpList P ops Q (o :: rest) a w := by
  obtain ⟨A', c', w', hr, h2, h3, h4⟩ := run_app (P := P) w base t o.type e z size bytes ht hinfo hzs hsz A n c xs hown A2 m c2 news hl hsrc h1 hbytes h63 hbase
  refine wpList_plain hgd fun K hK => ?_
  unfold Oper.wp execOp
  simp only [ho, resolve, invoke, builtin, Sem.run_bind, Sem.run_pure, Result.andThen_ok, List.map_toArray, List.map_cons, List.map_nil, hs, hx, hr]
  exact hK _ _ (h A' c' w' h2 h3 h4)
end
end Go.Proofs.Ytgeffkdobnipgaa
/- slices.Clone; Queue. -/
namespace Go.Proofs.Ytgeffkdobnipgaa
open Go.RowKit Nac Nac.Procs
def ints (l : List Nat) : List Int := l.map fun (p : Nat) => (p : Int)
theorem ints_len (l : List Nat) : (ints l).length = l.length := by simp [ints]
theorem ints_nums (l : List Nat) : (ints l).map (Value.int .i64) = nums l := by simp [ints, nums]
theorem nums_one (l : List Nat) : ∀ u ∈ nums l, u.oneCell' = true := fun u hu => by
  obtain ⟨x, _, rfl⟩ := List.mem_map.1 hu
  rfl
theorem row_src {w : World} {E : TypeId} {c n : Nat} {A : Option Addr} {xs : List Value} (h : Row w E 1 A c n xs) : Src w A xs := fun hne => by
  have hp : 0 < xs.length := List.length_pos_iff.2 hne
  obtain ⟨g, hA, _, _, _⟩ := h.at hp
  refine ⟨⟨g, 0, none⟩, hA, fun j u hu => ?_⟩
  obtain ⟨hj, rfl⟩ := List.getElem?_eq_some_iff.1 hu
  obtain ⟨g', hA', _, hc, _⟩ := h.at hj
  rw [hA] at hA'
  injection hA' with e
  injection e with e
  subst e
  rw [Addr.add_mid, Nat.zero_add]
  exact hc
/-- what reads as a list of processes -/
def RetQ (w : World) (l : List Nat) (e : Ending) (w' : World) : Prop := ∃ A c, e = .returned (.slice A l.length c) ∧ RI w' w'.heap.size A (ints l) ∧ Below w.heap.size w w' ∧ ∀ g, A.map (·.block) = some g → w.heap.size ≤ g
theorem row_ri {w : World} {A : Option Addr} {c : Nat} {l : List Nat} (h : Row w 3 1 A c l.length (nums l)) : RI w w.heap.size A (ints l) := by
  have : OI w 0 A c (ints l) := by unfold OI; rw [ints_len, ints_nums]; exact h
  exact this.ri
set_option maxHeartbeats 1000000 in
theorem clone_calls (w : World) (A : Option Addr) (c : Nat) (l : List Nat) (n : Nat) (hn : n = l.length) (h : Row w 3 1 A c l.length (nums l)) (h8 : n ≤ 1000) :
    Calls Try.prog 29 #[.slice A n c] w (RetQ w l) := by
  subst hn
  cases A with
  | none =>
    have hl : l = [] := by
      cases l with
      | nil => rfl
      | cons a l =>
        obtain ⟨g, hA, _⟩ := h.at (j := 0) (by simp [nums])
        cases hA
    subst hl
    clear h8 h
    have hnil := fun (w : World) (a : Option Addr) (n c : Nat) => Lib.run_eql_slice_nil (P := Try.prog) w 28 3 a n c 0 0 Try.underlying28
    go_enter Try.func29, Try.ntmps29
    go_wp2
    go_ret
    exact ⟨none, 0, rfl, fun h => absurd rfl h, Below.refl _ _, fun g h => by cases h⟩
  | some a =>
    have HW : Hid (Row (w.alloc (.cells #[] 3)) 3 1 (some ⟨w.heap.size, 0, none⟩) 0 0 []) := Lib.hid ⟨rfl, .inr ⟨w.heap.size, 0, #[], rfl, Nat.zero_le _, heap_alloc_new w _, Nat.le_refl _, by decide, rfl, rfl⟩⟩
    have HR := Lib.hid (row_src (h.below ((Below.refl _ _).alloc (Nat.le_refl _) (.cells #[] 3))))
    have HL : Hid ((nums l).length = l.length * 1) := Lib.hid (by simp [nums])
    obtain ⟨n, hn⟩ : ∃ n, n = l.length := ⟨_, rfl⟩
    have HN := Lib.hid hn
    rw [← hn] at h8 ⊢
    clear h hn
    have hnil := fun (w : World) (a : Option Addr) (n c : Nat) => Lib.run_eql_slice_nil (P := Try.prog) w 28 3 a n c 0 0 Try.underlying28
    go_enter Try.func29, Try.ntmps29
    go_wp2_with (at_builtin; refine wpList_app _ rfl _ _ 28 rfl 0 3 (.int .i64 0) 1 8 Try.underlying28 Try.infoIt rfl (by decide) (some ⟨w.heap.size, 0, none⟩) 0 0 [] rfl HW.out (some a) n c (nums l) rfl (by rw [HN.out]; exact HL.out) HR.out (nums_one l) (by omega) (by unfold maxLen; omega) (Nat.zero_le _) ?_)
    intro A' c' w1 ho hg hnb
    have HNB : Hid (∀ g, A'.map (·.block) = some g → w.heap.size ≤ g) := Lib.hid fun g h => by
      rcases hnb with ⟨a, rfl, ha⟩ | ⟨a, rfl, ha⟩
      · rw [Option.map_some] at h; injection h with h; omega
      · rw [Option.map_some] at h; injection h with h; omega
    have HO : Hid (RI w1 w1.heap.size A' (ints l)) := Lib.hid (row_ri (c := c') (by
      rw [HN.out] at ho
      exact ho))
    have HG : Hid (Below w.heap.size w w1) := Lib.hid (((Below.refl w.heap.size w).alloc (Nat.le_refl _) _).trans (grown_below hg (by simp) (fun k e => by simp at e; omega)))
    clear ho hg hnb
    go_wp2
    go_ret
    exact ⟨A', c', by rw [← HN.out]; rfl, HO.out, HG.out, HNB.out⟩
def queueL (P : PSet) (r : Int) : List Nat := if isR P r = true then (P.rsc r.toNat).q else []
theorem Queue_calls (w : World) (S : Nat) (P : PSet) (A : Nat → Option Addr) (c : Nat → Nat) (h : SetM w S P A c) (hI : Inv P) (r : Int) : Calls Try.prog 13 #[.pointer (some ⟨S, 0, none⟩), .int .i64 r] w (RetQ w (queueL P r)) := by
  have H := Lib.hid h
  cases hip : isR P r with
  | false =>
    have HX : Hid (queueL P r = []) := Lib.hid (by unfold queueL; rw [hip]; rfl)
    have HP := Lib.hid hip
    clear h hip hI
    rw [HX.out]
    go_enter Try.func13, Try.ntmps13
    go_wp2_with fail
    refine (isResource_calls w S P A c H.out r).mono ?_
    rintro e w2 ⟨rfl, rfl⟩
    rw [HP.out]
    go_wp2
    go_ret
    exact ⟨none, 0, rfl, fun h => absurd rfl h, Below.refl _ _, fun g h => by cases h⟩
  | true =>
    have HP := Lib.hid hip
    obtain ⟨k, rfl, hk⟩ := isR_nat hip
    have HX : Hid (queueL P k = (P.rsc k).q) := Lib.hid (by unfold queueL; rw [hip]; rfl)
    have HK := Lib.hid hk
    obtain ⟨g, hA, _⟩ := h.rcell hk
    obtain ⟨n, hn⟩ : ∃ n, n = P.rs.length := ⟨_, rfl⟩
    have c0 := h.head1 hA hn
    obtain ⟨l, hl⟩ : ∃ l, l = (P.rsc k).q := ⟨_, rfl⟩
    obtain ⟨m, hm⟩ : ∃ m, m = l.length := ⟨_, rfl⟩
    have c1 : w.cell? ⟨g, k * 5 + 3, none⟩ = some (.slice (A (3 + 2 * k)) m (c (3 + 2 * k))) := by rw [hm, hl]; exact h.rget (f := 3) hk hA rfl
    have HR : Hid (Row w 3 1 (A (3 + 2 * k)) (c (3 + 2 * k)) l.length (nums l)) := Lib.hid (by rw [hl]; exact h.qo k hk)
    have hm8 : m ≤ 1000 := by have := hI.qlen k; rw [hm, hl]; omega
    have hn8 : n ≤ 1000 := by rw [hn]; exact hI.wf.m
    have HM := Lib.hid hm
    rw [← hn] at hk
    rw [HX.out, ← hl]
    clear h hip hI hn hA hl hm
    go_enter Try.func13, Try.ntmps13
    go_wp2_with fail
    refine (isResource_calls w S P A c H.out k).mono ?_
    rintro e w2 ⟨rfl, rfl⟩
    rw [HP.out]
    go_wp2_with fail
    refine (clone_calls w _ _ l m HM.out HR.out hm8).mono ?_
    rintro e w3 ⟨A', c', rfl, hri, hb, hfrs⟩
    have HFRS := Lib.hid hfrs
    have HRI := Lib.hid hri
    have HB := Lib.hid hb
    obtain ⟨m2, hm2⟩ : ∃ m, m = l.length := ⟨_, rfl⟩
    rw [← hm2]
    have HM2 := Lib.hid hm2
    clear hri hb hm2 hfrs
    go_wp2
    go_ret
    exact ⟨A', c', by rw [← HM2.out]; rfl, HRI.out, HB.out, HFRS.out⟩
end Go.Proofs.Ytgeffkdobnipgaa
/- procs: Take. -/
namespace Go.Proofs.Ytgeffkdobnipgaa
open Go.RowKit Nac Nac.Procs
theorem build1_i64 (w : World) (x : Int) : (Instr.buildSlice 56 1 #[(0, .int .i64 x)]).run Try.prog w = .ok (.slice (some ⟨w.heap.size, 0, none⟩) 1 1) (w.alloc (.cells #[.int .i64 x] 2)) := by
  obtain ⟨ti, hi, hz, hs1, hb1⟩ := info_parts Try.infoI64
  refine run_buildSlice w _ _ 1 _ _ ti _ Try.underlying56 hi hz (by rw [hs1]; decide) (by rw [hs1]; decide) ?_
  rw [hs1]; kernel_rfl
set_option maxRecDepth 100000 in
set_option maxHeartbeats 1000000 in
theorem take_refused (w : World) (S : Nat) (P : PSet) (A : Nat → Option Addr) (c : Nat → Nat) (h : SetM w S P A c) (hI : Inv P) (r ticks e : Int) (hrf : refusedI P (runI P) r ticks = e) (he : e ≠ 0) :
    Calls Try.prog 17 #[.pointer (some ⟨S, 0, none⟩), .int .i64 r, .int .i64 ticks] w (RetSet w S A (.agg (ocs (errO e)).toArray) P) := by
  have H := Lib.hid h
  have HI := Lib.hid hI
  clear h hI
  have HRF := Lib.hid hrf
  have he1 : (e != 0) = true := by simpa using he
  have he2 : (e == 0) = false := by simpa using he
  clear hrf he
  go_enter Try.func17, Try.ntmps17
  go_wp2_with ((with_reducible show wpList _ _ _ (Oper.mk _ (Op.alloc 37) _ _ _ _ :: _) _ _); refine wpList_allocS _ zOut rfl rfl ?_)
  intro w1 hbk hg1 hs1
  obtain ⟨b, hb⟩ : ∃ b, b = w.heap.size := ⟨_, rfl⟩
  rw [← hb] at hbk ⊢
  have HNF : Hid (¬ Foot S A b) := Lib.hid (H.out.notFoot (by rw [hb]; exact Nat.le_refl _))
  have HBL : Hid (b < w1.heap.size) := Lib.hid (by omega)
  have HB1 := Lib.hid hbk
  have HG1 := Lib.hid hg1
  have HBE : Hid (w.heap.size ≤ b) := Lib.hid (by omega)
  have H1 : Hid (SetM w1 S P A c) := Lib.hid (H.out.apart hg1 fun k e => by cases e)
  clear hbk hg1 hs1 hb H
  go_wp2_with fail
  refine (Running_calls w1 S P A c H1.out HI.out.wf.n (by have := HI.out.rlen; omega) HI.out.rin).mono ?_
  rintro e w2 ⟨rfl, hb2⟩
  have H2 : Hid (SetM w2 S P A c) := Lib.hid (H1.out.below hb2)
  have HF2 : Hid (FrS S A w1 A w2) := Lib.hid (FrS.below hb2)
  clear hb2 H1
  go_wp2_with fail
  refine (refused_calls w2 S P A c H2.out (runI P) _ ticks).mono ?_
  rintro e w3 ⟨rfl, rfl⟩
  rw [HRF.out]
  have HBZ : Hid (Blk _ b [.int .i64 0, .int .i64 0, .bool false]) := Lib.hid (HF2.out.blk HB1.out HNF.out)
  go_wp2_with ((with_reducible show wpList _ _ _ (Oper.mk _ (Op.store 37 _ _) _ _ _ _ :: _) _ _); refine wpList_storeS sOut rfl _ _ rfl b [.int .i64 0, .int .i64 0, .bool false] (ocs (errO e)) rfl rfl HBZ.out rfl rfl (ocs_one _) ?_)
  intro w8 hb8 hg8
  have l8 := Lib.hid (run_loadS sOut b _ hb8 rfl)
  have HRS := Lib.hid (RetSet.fin (v := .agg (ocs (errO e)).toArray) HG1.out HBE.out HNF.out HBL.out HF2.out H2.out hg8)
  clear hb8 hg8
  go_wp2
  exact bodyPost_ret (v := .agg (ocs (errO e)).toArray) (by simp [results, Try.results17, asAddr, Sem.run_bind, Sem.run_pure, l8.out]) rfl HRS.out
set_option maxRecDepth 100000 in
set_option maxHeartbeats 1000000 in
theorem take_busy (w : World) (S : Nat) (P : PSet) (A : Nat → Option Addr) (c : Nat → Nat) (h : SetM w S P A c) (hI : Inv P) (k p : Nat) (ticks : Int) (hrf : refusedI P (runI P) k ticks = 0) (hru : runI P = p) (hp : p < P.ps.length) (hk : k < P.rs.length) (ki cn mo : Int) (hki : ki = (P.rsc k).kind) (hcn : cn = (P.rsc k).count) (hmo : mo = (P.rsc k).most) (h0 : cn = 0) (ht : ticks = 0) :
    Calls Try.prog 17 #[.pointer (some ⟨S, 0, none⟩), .int .i64 (k : Int), .int .i64 ticks] w (RetSet w S A (.agg (ocs busy).toArray) P) := by
  have H := Lib.hid h
  have HI := Lib.hid hI
  clear h hI
  have HRF := Lib.hid hrf
  have HRU := Lib.hid hru
  have HP := Lib.hid hp
  have HK := Lib.hid hk
  have HKI := Lib.hid hki
  have HCN := Lib.hid hcn
  have HMO := Lib.hid hmo
  clear hrf hru hp hk hki hcn hmo
  subst h0 ht
  go_enter Try.func17, Try.ntmps17
  go_wp2_with ((with_reducible show wpList _ _ _ (Oper.mk _ (Op.alloc 37) _ _ _ _ :: _) _ _); refine wpList_allocS _ zOut rfl rfl ?_)
  intro w1 hbk hg1 hs1
  obtain ⟨b, hb⟩ : ∃ b, b = w.heap.size := ⟨_, rfl⟩
  rw [← hb] at hbk ⊢
  have HNF : Hid (¬ Foot S A b) := Lib.hid (H.out.notFoot (by rw [hb]; exact Nat.le_refl _))
  have HBL : Hid (b < w1.heap.size) := Lib.hid (by omega)
  have HB1 := Lib.hid hbk
  have HG1 := Lib.hid hg1
  have HBE : Hid (w.heap.size ≤ b) := Lib.hid (by omega)
  have H1 : Hid (SetM w1 S P A c) := Lib.hid (H.out.apart hg1 fun k e => by cases e)
  clear hbk hg1 hs1 hb H
  go_wp2_with fail
  refine (Running_calls w1 S P A c H1.out HI.out.wf.n (by have := HI.out.rlen; omega) HI.out.rin).mono ?_
  rintro e w2 ⟨rfl, hb2⟩
  have H2 : Hid (SetM w2 S P A c) := Lib.hid (H1.out.below hb2)
  have HF2 : Hid (FrS S A w1 A w2) := Lib.hid (FrS.below hb2)
  clear hb2 H1
  go_wp2_with fail
  refine (refused_calls w2 S P A c H2.out (runI P) _ 0).mono ?_
  rintro e w3 ⟨rfl, rfl⟩
  rw [HRF.out]
  obtain ⟨g1, hA1, _⟩ := H2.out.rcell HK.out
  obtain ⟨n1, hn1⟩ : ∃ n, n = P.rs.length := ⟨_, rfl⟩
  have c1 := H2.out.head1 hA1 hn1
  have ck0 : w2.cell? ⟨g1, k * 5, none⟩ = some (.int .i64 (P.rsc k).kind) := H2.out.rget (f := 0) HK.out hA1 rfl
  have ck1 : w2.cell? ⟨g1, k * 5 + 1, none⟩ = some (.int .i64 (P.rsc k).count) := H2.out.rget (f := 1) HK.out hA1 rfl
  have ck2 : w2.cell? ⟨g1, k * 5 + 2, none⟩ = some (.int .i64 (P.rsc k).most) := H2.out.rget (f := 2) HK.out hA1 rfl
  have hkn : k < n1 := by rw [hn1]; exact HK.out
  have hn18 : n1 ≤ 1000 := by rw [hn1]; exact HI.out.wf.m
  have HA1 := Lib.hid hA1
  have HN1 := Lib.hid hn1
  rw [← HKI.out] at ck0
  rw [← HCN.out] at ck1
  rw [← HMO.out] at ck2
  clear hA1 hn1
  have HBZ : Hid (Blk _ b [.int .i64 0, .int .i64 0, .bool false]) := Lib.hid (HF2.out.blk HB1.out HNF.out)
  go_wp2_with ((with_reducible show wpList _ _ _ (Oper.mk _ (Op.store 37 _ _) _ _ _ _ :: _) _ _); refine wpList_storeS sOut rfl _ _ rfl b [.int .i64 0, .int .i64 0, .bool false] (ocs busy) rfl rfl HBZ.out rfl rfl (ocs_one _) ?_)
  intro w8 hb8 hg8
  have l8 := Lib.hid (run_loadS sOut b _ hb8 rfl)
  have HRS := Lib.hid (RetSet.fin (v := .agg (ocs busy).toArray) HG1.out HBE.out HNF.out HBL.out HF2.out H2.out hg8)
  clear hb8 hg8
  go_wp2
  exact bodyPost_ret (v := .agg (ocs busy).toArray) (by simp [results, Try.results17, asAddr, Sem.run_bind, Sem.run_pure, l8.out]) rfl HRS.out
set_option maxRecDepth 100000 in
set_option maxHeartbeats 1000000 in
theorem take_wait (w : World) (S : Nat) (P : PSet) (A : Nat → Option Addr) (c : Nat → Nat) (h : SetM w S P A c) (hI : Inv P) (k p : Nat) (ticks : Int) (hrf : refusedI P (runI P) k ticks = 0) (hru : runI P = p) (hp : p < P.ps.length) (hk : k < P.rs.length) (ki cn mo : Int) (hki : ki = (P.rsc k).kind) (hcn : cn = (P.rsc k).count) (hmo : mo = (P.rsc k).most) (h0 : cn = 0) (ht : ticks ≠ 0) :
    Calls Try.prog 17 #[.pointer (some ⟨S, 0, none⟩), .int .i64 (k : Int), .int .i64 ticks] w (RetSet w S A (.agg (ocs waits).toArray) (park P p k ticks 0)) := by
  have H := Lib.hid h
  have HI := Lib.hid hI
  clear h hI
  have HRF := Lib.hid hrf
  have HRU := Lib.hid hru
  have HP := Lib.hid hp
  have HK := Lib.hid hk
  have HKI := Lib.hid hki
  have HCN := Lib.hid hcn
  have HMO := Lib.hid hmo
  clear hrf hru hp hk hki hcn hmo
  have ht1 : (ticks == 0) = false := by simpa using ht
  have ht2 : (ticks != 0) = true := by simpa using ht
  subst h0
  clear ht
  go_enter Try.func17, Try.ntmps17
  go_wp2_with ((with_reducible show wpList _ _ _ (Oper.mk _ (Op.alloc 37) _ _ _ _ :: _) _ _); refine wpList_allocS _ zOut rfl rfl ?_)
  intro w1 hbk hg1 hs1
  obtain ⟨b, hb⟩ : ∃ b, b = w.heap.size := ⟨_, rfl⟩
  rw [← hb] at hbk ⊢
  have HNF : Hid (¬ Foot S A b) := Lib.hid (H.out.notFoot (by rw [hb]; exact Nat.le_refl _))
  have HBL : Hid (b < w1.heap.size) := Lib.hid (by omega)
  have HB1 := Lib.hid hbk
  have HG1 := Lib.hid hg1
  have HBE : Hid (w.heap.size ≤ b) := Lib.hid (by omega)
  have H1 : Hid (SetM w1 S P A c) := Lib.hid (H.out.apart hg1 fun k e => by cases e)
  clear hbk hg1 hs1 hb H
  go_wp2_with fail
  refine (Running_calls w1 S P A c H1.out HI.out.wf.n (by have := HI.out.rlen; omega) HI.out.rin).mono ?_
  rintro e w2 ⟨rfl, hb2⟩
  have H2 : Hid (SetM w2 S P A c) := Lib.hid (H1.out.below hb2)
  have HF2 : Hid (FrS S A w1 A w2) := Lib.hid (FrS.below hb2)
  clear hb2 H1
  go_wp2_with fail
  refine (refused_calls w2 S P A c H2.out (runI P) _ ticks).mono ?_
  rintro e w3 ⟨rfl, rfl⟩
  rw [HRF.out]
  obtain ⟨g1, hA1, _⟩ := H2.out.rcell HK.out
  obtain ⟨n1, hn1⟩ : ∃ n, n = P.rs.length := ⟨_, rfl⟩
  have c1 := H2.out.head1 hA1 hn1
  have ck0 : w2.cell? ⟨g1, k * 5, none⟩ = some (.int .i64 (P.rsc k).kind) := H2.out.rget (f := 0) HK.out hA1 rfl
  have ck1 : w2.cell? ⟨g1, k * 5 + 1, none⟩ = some (.int .i64 (P.rsc k).count) := H2.out.rget (f := 1) HK.out hA1 rfl
  have ck2 : w2.cell? ⟨g1, k * 5 + 2, none⟩ = some (.int .i64 (P.rsc k).most) := H2.out.rget (f := 2) HK.out hA1 rfl
  have hkn : k < n1 := by rw [hn1]; exact HK.out
  have hn18 : n1 ≤ 1000 := by rw [hn1]; exact HI.out.wf.m
  have HA1 := Lib.hid hA1
  have HN1 := Lib.hid hn1
  rw [← HKI.out] at ck0
  rw [← HCN.out] at ck1
  rw [← HMO.out] at ck2
  clear hA1 hn1
  rw [HRU.out]
  go_wp2_with fail
  refine (wait_res w2 S P A c H2.out (HI.out.wf.mono (by decide)) p k HP.out HK.out ticks 0).mono ?_
  rintro e w4 ⟨rfl, A4, c4, h4, hf4⟩
  have H4 := Lib.hid h4
  have HF4 := Lib.hid (HF2.out.trans hf4)
  clear h4 hf4 H2 HF2
  have HBZ : Hid (Blk _ b [.int .i64 0, .int .i64 0, .bool false]) := Lib.hid (HF4.out.blk HB1.out HNF.out)
  go_wp2_with ((with_reducible show wpList _ _ _ (Oper.mk _ (Op.store 37 _ _) _ _ _ _ :: _) _ _); refine wpList_storeS sOut rfl _ _ rfl b [.int .i64 0, .int .i64 0, .bool false] (ocs waits) rfl rfl HBZ.out rfl rfl (ocs_one _) ?_)
  intro w8 hb8 hg8
  have l8 := Lib.hid (run_loadS sOut b _ hb8 rfl)
  have HRS := Lib.hid (RetSet.fin (v := .agg (ocs waits).toArray) HG1.out HBE.out HNF.out HBL.out HF4.out H4.out hg8)
  clear hb8 hg8
  go_wp2
  exact bodyPost_ret (v := .agg (ocs waits).toArray) (by simp [results, Try.results17, asAddr, Sem.run_bind, Sem.run_pure, l8.out]) rfl HRS.out
set_option maxRecDepth 100000 in
set_option maxHeartbeats 1000000 in
theorem take_sem (w : World) (S : Nat) (P : PSet) (A : Nat → Option Addr) (c : Nat → Nat) (h : SetM w S P A c) (hI : Inv P) (k p : Nat) (ticks : Int) (hrf : refusedI P (runI P) k ticks = 0) (hru : runI P = p) (hp : p < P.ps.length) (hk : k < P.rs.length) (ki cn mo : Int) (hki : ki = (P.rsc k).kind) (hcn : cn = (P.rsc k).count) (hmo : mo = (P.rsc k).most) (h0 : cn ≠ 0) (hkk : ki = 0) :
    Calls Try.prog 17 #[.pointer (some ⟨S, 0, none⟩), .int .i64 (k : Int), .int .i64 ticks] w (RetSet w S A (.agg (ocs ok).toArray) (P.setR k { P.rsc k with count := (P.rsc k).count - 1 })) := by
  have H := Lib.hid h
  have HI := Lib.hid hI
  clear h hI
  have h01 : (cn == 0) = false := by simpa using h0
  have h02 : (cn != 0) = true := by simpa using h0
  have hb1 : 0 ≤ cn ∧ cn ≤ 16 := by have := HI.out.cnt k hk; have := HI.out.most k hk; omega
  obtain ⟨hb1, hb2'⟩ := hb1
  have HRF := Lib.hid hrf
  have HRU := Lib.hid hru
  have HP := Lib.hid hp
  have HK := Lib.hid hk
  have HKI := Lib.hid hki
  have HCN := Lib.hid hcn
  have HMO := Lib.hid hmo
  clear hrf hru hp hk hki hcn hmo
  subst hkk
  clear h0
  go_enter Try.func17, Try.ntmps17
  go_wp2_with ((with_reducible show wpList _ _ _ (Oper.mk _ (Op.alloc 37) _ _ _ _ :: _) _ _); refine wpList_allocS _ zOut rfl rfl ?_)
  intro w1 hbk hg1 hs1
  obtain ⟨b, hb⟩ : ∃ b, b = w.heap.size := ⟨_, rfl⟩
  rw [← hb] at hbk ⊢
  have HNF : Hid (¬ Foot S A b) := Lib.hid (H.out.notFoot (by rw [hb]; exact Nat.le_refl _))
  have HBL : Hid (b < w1.heap.size) := Lib.hid (by omega)
  have HB1 := Lib.hid hbk
  have HG1 := Lib.hid hg1
  have HBE : Hid (w.heap.size ≤ b) := Lib.hid (by omega)
  have H1 : Hid (SetM w1 S P A c) := Lib.hid (H.out.apart hg1 fun k e => by cases e)
  clear hbk hg1 hs1 hb H
  go_wp2_with fail
  refine (Running_calls w1 S P A c H1.out HI.out.wf.n (by have := HI.out.rlen; omega) HI.out.rin).mono ?_
  rintro e w2 ⟨rfl, hb2⟩
  have H2 : Hid (SetM w2 S P A c) := Lib.hid (H1.out.below hb2)
  have HF2 : Hid (FrS S A w1 A w2) := Lib.hid (FrS.below hb2)
  clear hb2 H1
  go_wp2_with fail
  refine (refused_calls w2 S P A c H2.out (runI P) _ ticks).mono ?_
  rintro e w3 ⟨rfl, rfl⟩
  rw [HRF.out]
  obtain ⟨g1, hA1, _⟩ := H2.out.rcell HK.out
  obtain ⟨n1, hn1⟩ : ∃ n, n = P.rs.length := ⟨_, rfl⟩
  have c1 := H2.out.head1 hA1 hn1
  have ck0 : w2.cell? ⟨g1, k * 5, none⟩ = some (.int .i64 (P.rsc k).kind) := H2.out.rget (f := 0) HK.out hA1 rfl
  have ck1 : w2.cell? ⟨g1, k * 5 + 1, none⟩ = some (.int .i64 (P.rsc k).count) := H2.out.rget (f := 1) HK.out hA1 rfl
  have ck2 : w2.cell? ⟨g1, k * 5 + 2, none⟩ = some (.int .i64 (P.rsc k).most) := H2.out.rget (f := 2) HK.out hA1 rfl
  have hkn : k < n1 := by rw [hn1]; exact HK.out
  have hn18 : n1 ≤ 1000 := by rw [hn1]; exact HI.out.wf.m
  have HA1 := Lib.hid hA1
  have HN1 := Lib.hid hn1
  rw [← HKI.out] at ck0
  rw [← HCN.out] at ck1
  rw [← HMO.out] at ck2
  clear hA1 hn1
  go_wp2_with ((with_reducible show wpList _ _ _ (Oper.mk _ (Op.store _ _ _) _ _ _ _ :: _) _ _); refine wpList_storeR rfl 3 _ _ rfl H2 HF2 1 (.int .i64 (cn - 1)) HK.out HA1 (by decide) { P.rsc k with count := (P.rsc k).count - 1 } (by rw [HCN.out]; rfl) rfl rfl rfl rfl s1Int rfl ?_)
  intro w4 H4 HF4
  clear c1 ck0 ck1 ck2
  have HBZ : Hid (Blk _ b [.int .i64 0, .int .i64 0, .bool false]) := Lib.hid (HF4.out.blk HB1.out HNF.out)
  go_wp2_with ((with_reducible show wpList _ _ _ (Oper.mk _ (Op.store 37 _ _) _ _ _ _ :: _) _ _); refine wpList_storeS sOut rfl _ _ rfl b [.int .i64 0, .int .i64 0, .bool false] (ocs ok) rfl rfl HBZ.out rfl rfl (ocs_one _) ?_)
  intro w8 hb8 hg8
  have l8 := Lib.hid (run_loadS sOut b _ hb8 rfl)
  have HRS := Lib.hid (RetSet.fin (v := .agg (ocs ok).toArray) HG1.out HBE.out HNF.out HBL.out HF4.out H4.out hg8)
  clear hb8 hg8
  go_wp2
  exact bodyPost_ret (v := .agg (ocs ok).toArray) (by simp [results, Try.results17, asAddr, Sem.run_bind, Sem.run_pure, l8.out]) rfl HRS.out
set_option maxRecDepth 100000 in
set_option maxHeartbeats 1000000 in
theorem take_sig (w : World) (S : Nat) (P : PSet) (A : Nat → Option Addr) (c : Nat → Nat) (h : SetM w S P A c) (hI : Inv P) (k p : Nat) (ticks : Int) (hrf : refusedI P (runI P) k ticks = 0) (hru : runI P = p) (hp : p < P.ps.length) (hk : k < P.rs.length) (ki cn mo : Int) (hki : ki = (P.rsc k).kind) (hcn : cn = (P.rsc k).count) (hmo : mo = (P.rsc k).most) (h0 : cn ≠ 0) (hkk : ki = 1) :
    Calls Try.prog 17 #[.pointer (some ⟨S, 0, none⟩), .int .i64 (k : Int), .int .i64 ticks] w (RetSet w S A (.agg (ocs ok).toArray) P) := by
  have H := Lib.hid h
  have HI := Lib.hid hI
  clear h hI
  have h01 : (cn == 0) = false := by simpa using h0
  have h02 : (cn != 0) = true := by simpa using h0
  have HRF := Lib.hid hrf
  have HRU := Lib.hid hru
  have HP := Lib.hid hp
  have HK := Lib.hid hk
  have HKI := Lib.hid hki
  have HCN := Lib.hid hcn
  have HMO := Lib.hid hmo
  clear hrf hru hp hk hki hcn hmo
  subst hkk
  clear h0
  go_enter Try.func17, Try.ntmps17
  go_wp2_with ((with_reducible show wpList _ _ _ (Oper.mk _ (Op.alloc 37) _ _ _ _ :: _) _ _); refine wpList_allocS _ zOut rfl rfl ?_)
  intro w1 hbk hg1 hs1
  obtain ⟨b, hb⟩ : ∃ b, b = w.heap.size := ⟨_, rfl⟩
  rw [← hb] at hbk ⊢
  have HNF : Hid (¬ Foot S A b) := Lib.hid (H.out.notFoot (by rw [hb]; exact Nat.le_refl _))
  have HBL : Hid (b < w1.heap.size) := Lib.hid (by omega)
  have HB1 := Lib.hid hbk
  have HG1 := Lib.hid hg1
  have HBE : Hid (w.heap.size ≤ b) := Lib.hid (by omega)
  have H1 : Hid (SetM w1 S P A c) := Lib.hid (H.out.apart hg1 fun k e => by cases e)
  clear hbk hg1 hs1 hb H
  go_wp2_with fail
  refine (Running_calls w1 S P A c H1.out HI.out.wf.n (by have := HI.out.rlen; omega) HI.out.rin).mono ?_
  rintro e w2 ⟨rfl, hb2⟩
  have H2 : Hid (SetM w2 S P A c) := Lib.hid (H1.out.below hb2)
  have HF2 : Hid (FrS S A w1 A w2) := Lib.hid (FrS.below hb2)
  clear hb2 H1
  go_wp2_with fail
  refine (refused_calls w2 S P A c H2.out (runI P) _ ticks).mono ?_
  rintro e w3 ⟨rfl, rfl⟩
  rw [HRF.out]
  obtain ⟨g1, hA1, _⟩ := H2.out.rcell HK.out
  obtain ⟨n1, hn1⟩ : ∃ n, n = P.rs.length := ⟨_, rfl⟩
  have c1 := H2.out.head1 hA1 hn1
  have ck0 : w2.cell? ⟨g1, k * 5, none⟩ = some (.int .i64 (P.rsc k).kind) := H2.out.rget (f := 0) HK.out hA1 rfl
  have ck1 : w2.cell? ⟨g1, k * 5 + 1, none⟩ = some (.int .i64 (P.rsc k).count) := H2.out.rget (f := 1) HK.out hA1 rfl
  have ck2 : w2.cell? ⟨g1, k * 5 + 2, none⟩ = some (.int .i64 (P.rsc k).most) := H2.out.rget (f := 2) HK.out hA1 rfl
  have hkn : k < n1 := by rw [hn1]; exact HK.out
  have hn18 : n1 ≤ 1000 := by rw [hn1]; exact HI.out.wf.m
  have HA1 := Lib.hid hA1
  have HN1 := Lib.hid hn1
  rw [← HKI.out] at ck0
  rw [← HCN.out] at ck1
  rw [← HMO.out] at ck2
  clear hA1 hn1
  have HBZ : Hid (Blk _ b [.int .i64 0, .int .i64 0, .bool false]) := Lib.hid (HF2.out.blk HB1.out HNF.out)
  go_wp2_with ((with_reducible show wpList _ _ _ (Oper.mk _ (Op.store 37 _ _) _ _ _ _ :: _) _ _); refine wpList_storeS sOut rfl _ _ rfl b [.int .i64 0, .int .i64 0, .bool false] (ocs ok) rfl rfl HBZ.out rfl rfl (ocs_one _) ?_)
  intro w8 hb8 hg8
  have l8 := Lib.hid (run_loadS sOut b _ hb8 rfl)
  have HRS := Lib.hid (RetSet.fin (v := .agg (ocs ok).toArray) HG1.out HBE.out HNF.out HBL.out HF2.out H2.out hg8)
  clear hb8 hg8
  go_wp2
  exact bodyPost_ret (v := .agg (ocs ok).toArray) (by simp [results, Try.results17, asAddr, Sem.run_bind, Sem.run_pure, l8.out]) rfl HRS.out
set_option maxRecDepth 100000 in
set_option maxHeartbeats 1000000 in
theorem take_buf0 (w : World) (S : Nat) (P : PSet) (A : Nat → Option Addr) (c : Nat → Nat) (h : SetM w S P A c) (hI : Inv P) (k p : Nat) (ticks : Int) (hrf : refusedI P (runI P) k ticks = 0) (hru : runI P = p) (hp : p < P.ps.length) (hk : k < P.rs.length) (ki cn mo : Int) (hki : ki = (P.rsc k).kind) (hcn : cn = (P.rsc k).count) (hmo : mo = (P.rsc k).most) (x : Int) (L : List Int) (hit : (P.rsc k).items = x :: L) (h0 : cn ≠ 0) (hkk : ki = 2) (hq : (P.rsc k).q = []) :
    Calls Try.prog 17 #[.pointer (some ⟨S, 0, none⟩), .int .i64 (k : Int), .int .i64 ticks] w (RetSet w S A (.agg (ocs ⟨0, x, false⟩).toArray) (takeB P k)) := by
  have H := Lib.hid h
  have HI := Lib.hid hI
  clear h hI
  have h01 : (cn == 0) = false := by simpa using h0
  have h02 : (cn != 0) = true := by simpa using h0
  have HQ := Lib.hid hq
  have HTB : Hid (takeB P k = (P.setR k { P.rsc k with items := L }).setR k { (P.setR k { P.rsc k with items := L }).rsc k with count := L.length }) := Lib.hid (takeB_nil hk hq hit)
  have HIT := Lib.hid hit
  obtain ⟨li0, hli0⟩ : ∃ n, n = (x :: L).length := ⟨_, rfl⟩
  have HLI0 := Lib.hid hli0
  have HLI : Hid (li0 = L.length + 1) := Lib.hid (by rw [hli0]; rfl)
  have hli8 : li0 ≤ 1000 := by have h1 := HI.out.items k hk (by rw [← hki, hkk]); have h2 := HI.out.cnt k hk; have h3 := HI.out.most k hk; rw [hit] at h1; omega
  have hli1 : 0 < li0 := by rw [hli0]; exact Nat.succ_pos _
  clear hli0
  have HRF := Lib.hid hrf
  have HRU := Lib.hid hru
  have HP := Lib.hid hp
  have HK := Lib.hid hk
  have HKI := Lib.hid hki
  have HCN := Lib.hid hcn
  have HMO := Lib.hid hmo
  clear hrf hru hp hk hki hcn hmo
  subst hkk
  clear h0 hit hq
  go_enter Try.func17, Try.ntmps17
  go_wp2_with ((with_reducible show wpList _ _ _ (Oper.mk _ (Op.alloc 37) _ _ _ _ :: _) _ _); refine wpList_allocS _ zOut rfl rfl ?_)
  intro w1 hbk hg1 hs1
  obtain ⟨b, hb⟩ : ∃ b, b = w.heap.size := ⟨_, rfl⟩
  rw [← hb] at hbk ⊢
  have HNF : Hid (¬ Foot S A b) := Lib.hid (H.out.notFoot (by rw [hb]; exact Nat.le_refl _))
  have HBL : Hid (b < w1.heap.size) := Lib.hid (by omega)
  have HB1 := Lib.hid hbk
  have HG1 := Lib.hid hg1
  have HBE : Hid (w.heap.size ≤ b) := Lib.hid (by omega)
  have H1 : Hid (SetM w1 S P A c) := Lib.hid (H.out.apart hg1 fun k e => by cases e)
  clear hbk hg1 hs1 hb H
  go_wp2_with fail
  refine (Running_calls w1 S P A c H1.out HI.out.wf.n (by have := HI.out.rlen; omega) HI.out.rin).mono ?_
  rintro e w2 ⟨rfl, hb2⟩
  have H2 : Hid (SetM w2 S P A c) := Lib.hid (H1.out.below hb2)
  have HF2 : Hid (FrS S A w1 A w2) := Lib.hid (FrS.below hb2)
  clear hb2 H1
  go_wp2_with fail
  refine (refused_calls w2 S P A c H2.out (runI P) _ ticks).mono ?_
  rintro e w3 ⟨rfl, rfl⟩
  rw [HRF.out]
  obtain ⟨g1, hA1, _⟩ := H2.out.rcell HK.out
  obtain ⟨n1, hn1⟩ : ∃ n, n = P.rs.length := ⟨_, rfl⟩
  have c1 := H2.out.head1 hA1 hn1
  have ck0 : w2.cell? ⟨g1, k * 5, none⟩ = some (.int .i64 (P.rsc k).kind) := H2.out.rget (f := 0) HK.out hA1 rfl
  have ck1 : w2.cell? ⟨g1, k * 5 + 1, none⟩ = some (.int .i64 (P.rsc k).count) := H2.out.rget (f := 1) HK.out hA1 rfl
  have ck2 : w2.cell? ⟨g1, k * 5 + 2, none⟩ = some (.int .i64 (P.rsc k).most) := H2.out.rget (f := 2) HK.out hA1 rfl
  have hkn : k < n1 := by rw [hn1]; exact HK.out
  have hn18 : n1 ≤ 1000 := by rw [hn1]; exact HI.out.wf.m
  have HA1 := Lib.hid hA1
  have HN1 := Lib.hid hn1
  rw [← HKI.out] at ck0
  rw [← HCN.out] at ck1
  rw [← HMO.out] at ck2
  clear hA1 hn1
  obtain ⟨gi, hAi, _, hci, _⟩ := (H2.out.io k HK.out).at (j := 0) (by rw [HIT.out]; simp)
  have ci : w2.cell? ⟨gi, 0, none⟩ = some (.int .i64 x) := by rw [hci]; simp [HIT.out]
  have ck4 : w2.cell? ⟨g1, k * 5 + 4, none⟩ = some (.slice (some ⟨gi, 0, none⟩) li0 (c (4 + 2 * k))) := by rw [← hAi, HLI0.out, ← HIT.out]; exact H2.out.rget (f := 4) HK.out HA1.out rfl
  have HAI := Lib.hid hAi
  clear hAi hci
  go_wp2_with fail
  refine (delete_first w2 (some ⟨gi, 0, none⟩) (c (4 + 2 * k)) x L li0 HLI.out (by have := H2.out.io k HK.out; rw [HIT.out, HAI.out] at this; exact this) hli8).mono ?_
  rintro e w3 ⟨rfl, hrow, hgr⟩
  have HR3 : Hid (Row w3 2 1 (A (4 + 2 * k)) (c (4 + 2 * k)) L.length (L.map (Value.int .i64))) := Lib.hid (by rw [HAI.out]; exact hrow)
  have HGR3 : Hid (w2.grownBy w3 ((A (4 + 2 * k)).map (·.block))) := Lib.hid (by rw [HAI.out]; exact hgr)
  have HNB3 : Hid (NewB w2 (A (4 + 2 * k)) (A (4 + 2 * k))) := Lib.hid (.inl rfl)
  obtain ⟨li, hli⟩ : ∃ n, n = L.length := ⟨_, rfl⟩
  rw [← hli, ← HAI.out]
  have HLL := Lib.hid hli
  have hli9 : li ≤ 1000 := by have := HLI.out; omega
  clear hrow hgr hli c1 ck0 ck1 ck2 ci ck4
  go_wp2_with ((with_reducible show wpList _ _ _ (Oper.mk _ (Op.store _ _ _) _ _ _ _ :: _) _ _); refine wpList_storeI rfl 56 _ _ rfl H2 HF2 HK.out HA1 HLL.out HR3 HGR3 HNB3 rfl rfl s1Words ?_)
  rw [upA_id, upC_id]
  intro w4 H4 HF4
  clear H2 HF2 HR3 HGR3 HNB3
  obtain ⟨P1, hP1⟩ : ∃ P1, P1 = P.setR k { P.rsc k with items := L } := ⟨_, rfl⟩
  rw [← hP1] at H4
  have HP1 := Lib.hid hP1
  have hk1 : k < P1.rs.length := by rw [hP1, rs_setR]; exact HK.out
  have HK1 := Lib.hid hk1
  have hq1 : (P1.rsc k).q = [] := by rw [hP1, rsc_setR HK.out]; exact HQ.out
  have hi1 : (P1.rsc k).items = L := by rw [hP1, rsc_setR HK.out]
  have HI1 := Lib.hid hi1
  have ck3 : w4.cell? ⟨g1, k * 5 + 3, none⟩ = some (.slice (A (3 + 2 * k)) 0 (c (3 + 2 * k))) := by rw [show (0 : Nat) = (P1.rsc k).q.length by rw [hq1]; rfl]; exact H4.out.rget (f := 3) HK1.out HA1.out rfl
  have ck4 : w4.cell? ⟨g1, k * 5 + 4, none⟩ = some (.slice (A (4 + 2 * k)) li (c (4 + 2 * k))) := by rw [HLL.out, ← hi1]; exact H4.out.rget (f := 4) HK1.out HA1.out rfl
  clear hP1 hk1 hq1 hi1
  go_wp2_with ((with_reducible show wpList _ _ _ (Oper.mk _ (Op.store _ _ _) _ _ _ _ :: _) _ _); refine wpList_storeR rfl 3 _ _ rfl H4 HF4 1 (.int .i64 (li : Int)) HK1.out HA1 (by decide) { P1.rsc k with count := li } (by rfl) rfl rfl rfl rfl s1Int rfl ?_)
  intro w5 H5 HF5
  have H6 : Hid (SetM w5 S (takeB P k) A c) := Lib.hid (by rw [HTB.out, ← HP1.out, ← HLL.out]; exact H5.out)
  clear ck3 ck4 H5
  have HBZ : Hid (Blk _ b [.int .i64 0, .int .i64 0, .bool false]) := Lib.hid (HF5.out.blk HB1.out HNF.out)
  go_wp2_with ((with_reducible show wpList _ _ _ (Oper.mk _ (Op.store 37 _ _) _ _ _ _ :: _) _ _); refine wpList_storeS sOut rfl _ _ rfl b [.int .i64 0, .int .i64 0, .bool false] (ocs ⟨0, x, false⟩) rfl rfl HBZ.out rfl rfl (ocs_one _) ?_)
  intro w8 hb8 hg8
  have l8 := Lib.hid (run_loadS sOut b _ hb8 rfl)
  have HRS := Lib.hid (RetSet.fin (v := .agg (ocs ⟨0, x, false⟩).toArray) HG1.out HBE.out HNF.out HBL.out HF5.out H6.out hg8)
  clear hb8 hg8
  go_wp2
  exact bodyPost_ret (v := .agg (ocs ⟨0, x, false⟩).toArray) (by simp [results, Try.results17, asAddr, Sem.run_bind, Sem.run_pure, l8.out]) rfl HRS.out
set_option maxRecDepth 100000 in
set_option maxHeartbeats 1000000 in
theorem take_buf1 (w : World) (S : Nat) (P : PSet) (A : Nat → Option Addr) (c : Nat → Nat) (h : SetM w S P A c) (hI : Inv P) (k p : Nat) (ticks : Int) (hrf : refusedI P (runI P) k ticks = 0) (hru : runI P = p) (hp : p < P.ps.length) (hk : k < P.rs.length) (ki cn mo : Int) (hki : ki = (P.rsc k).kind) (hcn : cn = (P.rsc k).count) (hmo : mo = (P.rsc k).most) (x : Int) (L : List Int) (hit : (P.rsc k).items = x :: L) (h0 : cn ≠ 0) (hkk : ki = 2) (f : Nat) (rest : List Nat) (hq : (P.rsc k).q = f :: rest) :
    Calls Try.prog 17 #[.pointer (some ⟨S, 0, none⟩), .int .i64 (k : Int), .int .i64 ticks] w (RetSet w S A (.agg (ocs ⟨0, x, false⟩).toArray) (takeB P k)) := by
  have H := Lib.hid h
  have HI := Lib.hid hI
  clear h hI
  have h01 : (cn == 0) = false := by simpa using h0
  have h02 : (cn != 0) = true := by simpa using h0
  have HQ := Lib.hid hq
  have hf : f < P.ps.length := ((HI.out.qin k hk f).1 (by rw [hq]; simp)).1
  have HFN := Lib.hid hf
  have HTB : Hid (takeB P k = (release (P.setR k { P.rsc k with items := L ++ [(P.proc f).item] }) f ok).setR k { (release (P.setR k { P.rsc k with items := L ++ [(P.proc f).item] }) f ok).rsc k with count := (((release (P.setR k { P.rsc k with items := L ++ [(P.proc f).item] }) f ok).rsc k).items.length : Nat) }) := Lib.hid (takeB_cons hq hit)
  obtain ⟨lq, hlq⟩ : ∃ n, n = (f :: rest).length := ⟨_, rfl⟩
  have HLQ := Lib.hid hlq
  have hlq1 : 0 < lq := by rw [hlq]; exact Nat.succ_pos _
  have hlq8 : lq ≤ 1000 := by have := HI.out.qlen k; rw [hq] at this; omega
  have HIT := Lib.hid hit
  obtain ⟨li0, hli0⟩ : ∃ n, n = (x :: L).length := ⟨_, rfl⟩
  have HLI0 := Lib.hid hli0
  have HLI : Hid (li0 = L.length + 1) := Lib.hid (by rw [hli0]; rfl)
  have hli8 : li0 ≤ 1000 := by have h1 := HI.out.items k hk (by rw [← hki, hkk]); have h2 := HI.out.cnt k hk; have h3 := HI.out.most k hk; rw [hit] at h1; omega
  have hli1 : 0 < li0 := by rw [hli0]; exact Nat.succ_pos _
  clear hli0
  have HRF := Lib.hid hrf
  have HRU := Lib.hid hru
  have HP := Lib.hid hp
  have HK := Lib.hid hk
  have HKI := Lib.hid hki
  have HCN := Lib.hid hcn
  have HMO := Lib.hid hmo
  clear hrf hru hp hk hki hcn hmo
  subst hkk
  clear h0 hit hq hf hlq
  go_enter Try.func17, Try.ntmps17
  go_wp2_with ((with_reducible show wpList _ _ _ (Oper.mk _ (Op.alloc 37) _ _ _ _ :: _) _ _); refine wpList_allocS _ zOut rfl rfl ?_)
  intro w1 hbk hg1 hs1
  obtain ⟨b, hb⟩ : ∃ b, b = w.heap.size := ⟨_, rfl⟩
  rw [← hb] at hbk ⊢
  have HNF : Hid (¬ Foot S A b) := Lib.hid (H.out.notFoot (by rw [hb]; exact Nat.le_refl _))
  have HBL : Hid (b < w1.heap.size) := Lib.hid (by omega)
  have HB1 := Lib.hid hbk
  have HG1 := Lib.hid hg1
  have HBE : Hid (w.heap.size ≤ b) := Lib.hid (by omega)
  have H1 : Hid (SetM w1 S P A c) := Lib.hid (H.out.apart hg1 fun k e => by cases e)
  clear hbk hg1 hs1 hb H
  go_wp2_with fail
  refine (Running_calls w1 S P A c H1.out HI.out.wf.n (by have := HI.out.rlen; omega) HI.out.rin).mono ?_
  rintro e w2 ⟨rfl, hb2⟩
  have H2 : Hid (SetM w2 S P A c) := Lib.hid (H1.out.below hb2)
  have HF2 : Hid (FrS S A w1 A w2) := Lib.hid (FrS.below hb2)
  clear hb2 H1
  go_wp2_with fail
  refine (refused_calls w2 S P A c H2.out (runI P) _ ticks).mono ?_
  rintro e w3 ⟨rfl, rfl⟩
  rw [HRF.out]
  obtain ⟨g1, hA1, _⟩ := H2.out.rcell HK.out
  obtain ⟨n1, hn1⟩ : ∃ n, n = P.rs.length := ⟨_, rfl⟩
  have c1 := H2.out.head1 hA1 hn1
  have ck0 : w2.cell? ⟨g1, k * 5, none⟩ = some (.int .i64 (P.rsc k).kind) := H2.out.rget (f := 0) HK.out hA1 rfl
  have ck1 : w2.cell? ⟨g1, k * 5 + 1, none⟩ = some (.int .i64 (P.rsc k).count) := H2.out.rget (f := 1) HK.out hA1 rfl
  have ck2 : w2.cell? ⟨g1, k * 5 + 2, none⟩ = some (.int .i64 (P.rsc k).most) := H2.out.rget (f := 2) HK.out hA1 rfl
  have hkn : k < n1 := by rw [hn1]; exact HK.out
  have hn18 : n1 ≤ 1000 := by rw [hn1]; exact HI.out.wf.m
  have HA1 := Lib.hid hA1
  have HN1 := Lib.hid hn1
  rw [← HKI.out] at ck0
  rw [← HCN.out] at ck1
  rw [← HMO.out] at ck2
  clear hA1 hn1
  obtain ⟨gi, hAi, _, hci, _⟩ := (H2.out.io k HK.out).at (j := 0) (by rw [HIT.out]; simp)
  have ci : w2.cell? ⟨gi, 0, none⟩ = some (.int .i64 x) := by rw [hci]; simp [HIT.out]
  have ck4 : w2.cell? ⟨g1, k * 5 + 4, none⟩ = some (.slice (some ⟨gi, 0, none⟩) li0 (c (4 + 2 * k))) := by rw [← hAi, HLI0.out, ← HIT.out]; exact H2.out.rget (f := 4) HK.out HA1.out rfl
  have HAI := Lib.hid hAi
  clear hAi hci
  go_wp2_with fail
  refine (delete_first w2 (some ⟨gi, 0, none⟩) (c (4 + 2 * k)) x L li0 HLI.out (by have := H2.out.io k HK.out; rw [HIT.out, HAI.out] at this; exact this) hli8).mono ?_
  rintro e w3 ⟨rfl, hrow, hgr⟩
  have HR3 : Hid (Row w3 2 1 (A (4 + 2 * k)) (c (4 + 2 * k)) L.length (L.map (Value.int .i64))) := Lib.hid (by rw [HAI.out]; exact hrow)
  have HGR3 : Hid (w2.grownBy w3 ((A (4 + 2 * k)).map (·.block))) := Lib.hid (by rw [HAI.out]; exact hgr)
  have HNB3 : Hid (NewB w2 (A (4 + 2 * k)) (A (4 + 2 * k))) := Lib.hid (.inl rfl)
  obtain ⟨li, hli⟩ : ∃ n, n = L.length := ⟨_, rfl⟩
  rw [← hli, ← HAI.out]
  have HLL := Lib.hid hli
  have hli9 : li ≤ 1000 := by have := HLI.out; omega
  clear hrow hgr hli c1 ck0 ck1 ck2 ci ck4
  go_wp2_with ((with_reducible show wpList _ _ _ (Oper.mk _ (Op.store _ _ _) _ _ _ _ :: _) _ _); refine wpList_storeI rfl 56 _ _ rfl H2 HF2 HK.out HA1 HLL.out HR3 HGR3 HNB3 rfl rfl s1Words ?_)
  rw [upA_id, upC_id]
  intro w4 H4 HF4
  clear H2 HF2 HR3 HGR3 HNB3
  obtain ⟨P1, hP1⟩ : ∃ P1, P1 = P.setR k { P.rsc k with items := L } := ⟨_, rfl⟩
  rw [← hP1] at H4
  have HP1 := Lib.hid hP1
  have hk1 : k < P1.rs.length := by rw [hP1, rs_setR]; exact HK.out
  have HK1 := Lib.hid hk1
  have hq1 : (P1.rsc k).q = f :: rest := by rw [hP1, rsc_setR HK.out]; exact HQ.out
  have hi1 : (P1.rsc k).items = L := by rw [hP1, rsc_setR HK.out]
  have HI1 := Lib.hid hi1
  have ck3 : w4.cell? ⟨g1, k * 5 + 3, none⟩ = some (.slice (A (3 + 2 * k)) lq (c (3 + 2 * k))) := by rw [show lq = (P1.rsc k).q.length by rw [hq1]; exact HLQ.out]; exact H4.out.rget (f := 3) HK1.out HA1.out rfl
  obtain ⟨gq, hAq, _, hcq, _⟩ := (H4.out.qo k HK1.out).at (j := 0) (by rw [hq1]; simp [nums])
  have cq : w4.cell? ⟨gq, 0, none⟩ = some (.int .i64 (f : Int)) := by rw [hcq]; simp [hq1, nums]
  obtain ⟨g0, hA0, _⟩ := H4.out.pcell (p := f) (by rw [hP1]; exact HFN.out)
  obtain ⟨n0, hn0⟩ : ∃ n, n = P1.ps.length := ⟨_, rfl⟩
  obtain ⟨it, hit⟩ : ∃ it, it = (P.proc f).item := ⟨_, rfl⟩
  have HA0 := Lib.hid hA0
  have HPE : Hid (P1.proc f = P.proc f) := Lib.hid (by rw [hP1]; rfl)
  have hfn : f < n0 := by rw [hn0, hP1]; exact HFN.out
  have hn08 : n0 ≤ 1000 := by rw [hn0, hP1]; exact HI.out.wf.n
  have HF1N : Hid (f < P1.ps.length) := Lib.hid (by rw [hP1]; exact HFN.out)
  have CI : Hid (KnowC w4 ((A (4 + 2 * k)).map (·.block)) g1 (k * 5 + 4) (.slice (A (4 + 2 * k)) li (c (4 + 2 * k)))) := knowC (by rw [HLL.out, ← hi1]; exact H4.out.rget (f := 4) HK1.out HA1.out rfl) (fun e => H4.out.ap 1 (4 + 2 * k) g1 (by omega) (by rw [HA1.out]; rfl) e.symm)
  have C0 : Hid (KnowC w4 ((A (4 + 2 * k)).map (·.block)) S 0 (.slice (some ⟨g0, 0, none⟩) n0 (c 0))) := knowC (H4.out.head0 hA0 hn0) (fun e => H4.out.aps _ e.symm)
  have CF : Hid (KnowC w4 ((A (4 + 2 * k)).map (·.block)) g0 (f * 8 + 7) (.int .i64 it)) := knowC (by rw [hit, ← HPE.out]; exact H4.out.pget (f := 7) HF1N.out hA0 rfl) (fun e => H4.out.ap 0 (4 + 2 * k) g0 (by omega) (by rw [hA0]; rfl) e.symm)
  have QR : Hid (Row w4 2 1 (A (4 + 2 * k)) (c (4 + 2 * k)) li (wits L)) := Lib.hid (by have := H4.out.io k HK1.out; rw [hi1, ← HLL.out] at this; exact this)
  have HROW : Hid (∀ j, (A (4 + 2 * k)).map (·.block) = some j → j < w4.heap.size) := Lib.hid fun j hj => H4.out.lt _ j hj
  have HIE := Lib.hid hit
  rw [hAq] at ck3
  clear hcq hA0 hn0 hit hP1 hk1 hq1 hi1 hAq
  go_wp2_with fail
  clear ck3 cq
  refine region_relL 15 (AppR ((A (4 + 2 * k)).map (·.block)) 14) (fun ix9 => ([.is (.pointer (some ⟨g1, k * 5, none⟩)), .is (.pointer (some ⟨g1, k * 5, none⟩)), .is (.pointer (some ⟨g1, k * 5, none⟩)), .is (.pointer (some ⟨g1, k * 5 + 4, none⟩)), .is (.slice (A (4 + 2 * k)) li (c (4 + 2 * k))), .is (.pointer (some ⟨S, 0, none⟩)), .is (.pointer (some ⟨S, 0, none⟩)), .is (.pointer (some ⟨S, 0, none⟩)), .is (.slice (some ⟨g0, 0, none⟩) n0 (c 0)), .is (.int .i64 (f : Int)), .is (.pointer (some ⟨g0, f * 8, none⟩)), .is (.pointer (some ⟨g0, f * 8 + 7, none⟩)), .is (.int .i64 it), .pr (Built1 w4 (.int .i64 it)), .pr (Apped w4 2 (A (4 + 2 * k)) li (wits L) (.int .i64 it))] : List LD).getD ix9 (.is undef)) [some 87, some 88, some 89, some 90, some 91, some 92, some 93, some 94, some 95, some 96, some 97, some 98, some 99, some 100, some 101] (AppJ w4 ((A (4 + 2 * k)).map (·.block)) 14) (fun ii hii => ?_) (AppR.refl _ 14) (by kernel_rfl) (by kernel_rfl) (by kernel_rfl) (by kernel_rfl) rfl (AppJ.start w4 _ 14) (fun ii hii => ?_) ?_
  · match ii, hii with
    | 0, _ => exact LD.keeps_is _ _ _
    | 1, _ => exact LD.keeps_is _ _ _
    | 2, _ => exact LD.keeps_is _ _ _
    | 3, _ => exact LD.keeps_is _ _ _
    | 4, _ => exact LD.keeps_is _ _ _
    | 5, _ => exact LD.keeps_is _ _ _
    | 6, _ => exact LD.keeps_is _ _ _
    | 7, _ => exact LD.keeps_is _ _ _
    | 8, _ => exact LD.keeps_is _ _ _
    | 9, _ => exact LD.keeps_is _ _ _
    | 10, _ => exact LD.keeps_is _ _ _
    | 11, _ => exact LD.keeps_is _ _ _
    | 12, _ => exact LD.keeps_is _ _ _
    | 13, _ => exact keep_built 13 _ HROW.out
    | 14, _ => exact keep_apped _ _ _ _ _
    | n + 15, h => exact absurd h (by show ¬ (n + 15 < 15); omega)
  · match ii, hii with
    | 0, _ => exact lstep_first (AppR.refl _ 14) rfl (lwant_none rfl) (AppJ.pure (by decide)) 9 (Or.inl rfl) (by kernel_rfl) (fun _ => rfl)
    | 1, _ => exact lstep_first (AppR.refl _ 14) rfl (lwant_none rfl) (AppJ.pure (by decide)) 9 (Or.inl rfl) (by kernel_rfl) (fun _ => rfl)
    | 2, _ => exact lstep_pure (AppR.refl _ 14) rfl (lwant_none rfl) (AppJ.pure (by decide)) (fun LL aa ww cc => ⟨.pointer (some ⟨g1, k * 5, none⟩), by have e0 : aa.tmps.getD 88 undef = .pointer (some ⟨g1, k * 5, none⟩) := cc.slot 1 88 (by kernel_rfl) rfl; simp only [execOp, Act.eval, e0]; go_simp, rfl⟩)
    | 3, _ => exact lstep_pure (AppR.refl _ 14) rfl (lwant_none rfl) (AppJ.pure (by decide)) (fun LL aa ww cc => ⟨.pointer (some ⟨g1, k * 5 + 4, none⟩), by have e0 : aa.tmps.getD 89 undef = .pointer (some ⟨g1, k * 5, none⟩) := cc.slot 2 89 (by kernel_rfl) rfl; simp only [execOp, Act.eval, e0]; go_simp, rfl⟩)
    | 4, _ => exact lstep_pure (AppR.refl _ 14) rfl (lwant_none rfl) (AppJ.pure (by decide)) (fun LL aa ww cc => ⟨.slice (A (4 + 2 * k)) li (c (4 + 2 * k)), by have e0 : aa.tmps.getD 90 undef = .pointer (some ⟨g1, k * 5 + 4, none⟩) := cc.slot 3 90 (by kernel_rfl) rfl; have q := CI.out _ cc.world.1; simp only [execOp, Act.eval, e0]; go_simp, rfl⟩)
    | 5, _ => exact lstep_first (AppR.refl _ 14) rfl (lwant_none rfl) (AppJ.pure (by decide)) 0 (Or.inl rfl) (by kernel_rfl) (fun _ => rfl)
    | 6, _ => exact lstep_pure (AppR.refl _ 14) rfl (lwant_none rfl) (AppJ.pure (by decide)) (fun LL aa ww cc => ⟨.pointer (some ⟨S, 0, none⟩), by have e0 : aa.tmps.getD 92 undef = .pointer (some ⟨S, 0, none⟩) := cc.slot 5 92 (by kernel_rfl) rfl; simp only [execOp, Act.eval, e0]; go_simp, rfl⟩)
    | 7, _ => exact lstep_pure (AppR.refl _ 14) rfl (lwant_none rfl) (AppJ.pure (by decide)) (fun LL aa ww cc => ⟨.pointer (some ⟨S, 0, none⟩), by have e0 : aa.tmps.getD 93 undef = .pointer (some ⟨S, 0, none⟩) := cc.slot 6 93 (by kernel_rfl) rfl; simp only [execOp, Act.eval, e0]; go_simp, rfl⟩)
    | 8, _ => exact lstep_pure (AppR.refl _ 14) rfl (lwant_none rfl) (AppJ.pure (by decide)) (fun LL aa ww cc => ⟨.slice (some ⟨g0, 0, none⟩) n0 (c 0), by have e0 : aa.tmps.getD 94 undef = .pointer (some ⟨S, 0, none⟩) := cc.slot 7 94 (by kernel_rfl) rfl; have q := C0.out _ cc.world.1; simp only [execOp, Act.eval, e0]; go_simp, rfl⟩)
    | 9, _ => exact lstep_first (AppR.refl _ 14) rfl (lwant_none rfl) (AppJ.pure (by decide)) 11 (Or.inl rfl) (by kernel_rfl) (fun _ => rfl)
    | 10, _ => exact lstep_pure (AppR.refl _ 14) rfl (lwant_none rfl) (AppJ.pure (by decide)) (fun LL aa ww cc => ⟨.pointer (some ⟨g0, f * 8, none⟩), by have e0 : aa.tmps.getD 95 undef = .slice (some ⟨g0, 0, none⟩) n0 (c 0) := cc.slot 8 95 (by kernel_rfl) rfl; have e1 : aa.tmps.getD 96 undef = .int .i64 (f : Int) := cc.slot 9 96 (by kernel_rfl) rfl; simp only [execOp, Act.eval, e0, e1]; go_simp, rfl⟩)
    | 11, _ => exact lstep_pure (AppR.refl _ 14) rfl (lwant_none rfl) (AppJ.pure (by decide)) (fun LL aa ww cc => ⟨.pointer (some ⟨g0, f * 8 + 7, none⟩), by have e0 : aa.tmps.getD 97 undef = .pointer (some ⟨g0, f * 8, none⟩) := cc.slot 10 97 (by kernel_rfl) rfl; simp only [execOp, Act.eval, e0]; go_simp, rfl⟩)
    | 12, _ => exact lstep_pure (AppR.refl _ 14) rfl (lwant_none rfl) (AppJ.pure (by decide)) (fun LL aa ww cc => ⟨.int .i64 it, by have e0 : aa.tmps.getD 98 undef = .pointer (some ⟨g0, f * 8 + 7, none⟩) := cc.slot 11 98 (by kernel_rfl) rfl; have q := CF.out _ cc.world.1; simp only [execOp, Act.eval, e0]; go_simp, rfl⟩)
    | 13, _ => exact lstep_build1 (by decide) rfl (lwant_none rfl) 99 rfl (.int .i64 it) (fun w => build1_i64 w _) (fun LL aa ww cc => cc.slot 12 99 (by kernel_rfl) rfl) rfl
    | 14, _ => exact lstep_app1 Try.underlying56 Try.infoI64 rfl (by decide) rfl (lwant_none rfl) 91 100 rfl (A (4 + 2 * k)) (c (4 + 2 * k)) li (wits L) (.int .i64 it) rfl QR.out rfl (by omega) (fun LL aa ww cc => cc.slot 4 91 (by kernel_rfl) rfl) (fun LL aa ww cc => cc.slot 13 100 (by kernel_rfl) rfl) rfl
    | n + 15, h => exact absurd h (by show ¬ (n + 15 < 15); omega)
  · intro L9 VV w5 hall hlen hJ5 hok
    match VV, hlen with
    | [v0, v1, v2, v3, v4, v5, v6, v7, v8, v9, v10, v11, v12, v13, v14], _ =>
      obtain rfl : v0 = .pointer (some ⟨g1, k * 5, none⟩) := hok 0 87 rfl
      obtain rfl : v1 = .pointer (some ⟨g1, k * 5, none⟩) := hok 1 88 rfl
      obtain rfl : v2 = .pointer (some ⟨g1, k * 5, none⟩) := hok 2 89 rfl
      obtain rfl : v3 = .pointer (some ⟨g1, k * 5 + 4, none⟩) := hok 3 90 rfl
      obtain rfl : v4 = .slice (A (4 + 2 * k)) li (c (4 + 2 * k)) := hok 4 91 rfl
      obtain rfl : v5 = .pointer (some ⟨S, 0, none⟩) := hok 5 92 rfl
      obtain rfl : v6 = .pointer (some ⟨S, 0, none⟩) := hok 6 93 rfl
      obtain rfl : v7 = .pointer (some ⟨S, 0, none⟩) := hok 7 94 rfl
      obtain rfl : v8 = .slice (some ⟨g0, 0, none⟩) n0 (c 0) := hok 8 95 rfl
      obtain rfl : v9 = .int .i64 (f : Int) := hok 9 96 rfl
      obtain rfl : v10 = .pointer (some ⟨g0, f * 8, none⟩) := hok 10 97 rfl
      obtain rfl : v11 = .pointer (some ⟨g0, f * 8 + 7, none⟩) := hok 11 98 rfl
      obtain rfl : v12 = .int .i64 it := hok 12 99 rfl
      have p13 := hok 13 100 rfl
      have p14 := hok 14 101 rfl
      have p14' : Apped w4 2 (A (4 + 2 * k)) li (wits L) (.int .i64 it) v14 w5 := p14
      obtain ⟨A2, c2, rfl, hrow, hnb⟩ := p14'
      have HR5 : Hid (Row w5 2 1 A2 c2 (L ++ [it]).length ((L ++ [it]).map (Value.int .i64))) := Lib.hid (by
        rw [show (L ++ [it]).length = li + 1 by simp [HLL.out], show (L ++ [it]).map (Value.int .i64) = wits L ++ [.int .i64 it] by simp [wits]]
        exact hrow)
      have HG5 : Hid (w4.grownBy w5 ((A (4 + 2 * k)).map (·.block))) := Lib.hid hJ5.1
      have HNB : Hid (NewB w4 (A (4 + 2 * k)) A2) := Lib.hid hnb
      have HL5 : Hid (li + 1 = (L ++ [it]).length) := Lib.hid (by simp [HLL.out])
      clear p13 p14 hrow hnb hJ5 hok hall CI C0 CF QR HROW
      simp only [List.zip_cons_cons, List.zip_nil_right, putsL]
      go_simp
      go_wp2_with ((with_reducible show wpList _ _ _ (Oper.mk _ (Op.store _ _ _) _ _ _ _ :: _) _ _); refine wpList_storeI rfl 56 _ _ rfl H4 HF4 HK1.out HA1 HL5.out HR5 HG5 HNB rfl rfl s1Words ?_)
      intro w6 H6 HF6
      clear H4 HF4 HR5 HG5 HNB HL5
      obtain ⟨P3, hP3⟩ : ∃ P3, P3 = P1.setR k { P1.rsc k with items := L ++ [it] } := ⟨_, rfl⟩
      have hP3' : P3 = P.setR k { P.rsc k with items := L ++ [(P.proc f).item] } := by rw [hP3, HP1.out, rsc_setR HK.out, setR_setR, HIE.out]
      rw [← hP3] at H6
      have HP3 := Lib.hid hP3'
      have HW3 : Hid (Wf P3 999) := Lib.hid (by rw [hP3']; exact (HI.out.wf.mono (by decide)).setR (by have := HI.out.qlen k; show (P.rsc k).q.length ≤ 999; omega))
      have HF3N : Hid (f < P3.ps.length) := Lib.hid (by rw [hP3']; exact HFN.out)
      clear hP3 hP3'
      go_wp2_with fail
      refine (release_calls w6 S P3 _ _ H6.out HW3.out f HF3N.out 0 0 false).mono ?_
      rintro e w7 ⟨rfl, A7, c7, h7, hf7⟩
      obtain ⟨P7, hP7⟩ : ∃ P7, P7 = release P3 f ⟨0, 0, false⟩ := ⟨_, rfl⟩
      rw [← hP7] at h7
      have hA71 : A7 1 = some ⟨g1, 0, none⟩ := by rw [hf7.p1, upA_ne _ _ (by omega)]; exact HA1.out
      have hk7 : k < P7.rs.length := by rw [hP7, release_m, HP3.out, rs_setR]; exact HK.out
      obtain ⟨l7, hl7⟩ : ∃ n, n = (P7.rsc k).items.length := ⟨_, rfl⟩
      have ck4 : w7.cell? ⟨g1, k * 5 + 4, none⟩ = some (.slice (A7 (4 + 2 * k)) l7 (c7 (4 + 2 * k))) := by rw [hl7]; exact h7.rget (f := 4) hk7 hA71 rfl
      have H7 := Lib.hid h7
      have HF7 := Lib.hid (HF6.out.trans hf7)
      have HA71 := Lib.hid hA71
      have HK7 := Lib.hid hk7
      have HP7 := Lib.hid hP7
      have HL7 := Lib.hid hl7
      clear h7 hf7 hA71 hk7 hP7 hl7 H6 HF6
      go_wp2_with ((with_reducible show wpList _ _ _ (Oper.mk _ (Op.store _ _ _) _ _ _ _ :: _) _ _); refine wpList_storeR rfl 3 _ _ rfl H7 HF7 1 (.int .i64 (l7 : Int)) HK7.out HA71 (by decide) { P7.rsc k with count := l7 } (by rfl) rfl rfl rfl rfl s1Int rfl ?_)
      intro w9 H9' HF9
      have H9 : Hid (SetM w9 S (takeB P k) A7 c7) := Lib.hid (by rw [HTB.out, ← HP3.out]; show SetM w9 S ((release P3 f ⟨0, 0, false⟩).setR k { (release P3 f ⟨0, 0, false⟩).rsc k with count := (((release P3 f ⟨0, 0, false⟩).rsc k).items.length : Nat) }) A7 c7; rw [← HP7.out, ← HL7.out]; exact H9'.out)
      clear H7 HF7 H9' ck4
      have HBZ : Hid (Blk _ b [.int .i64 0, .int .i64 0, .bool false]) := Lib.hid (HF9.out.blk HB1.out HNF.out)
      go_wp2_with ((with_reducible show wpList _ _ _ (Oper.mk _ (Op.store 37 _ _) _ _ _ _ :: _) _ _); refine wpList_storeS sOut rfl _ _ rfl b [.int .i64 0, .int .i64 0, .bool false] (ocs ⟨0, x, false⟩) rfl rfl HBZ.out rfl rfl (ocs_one _) ?_)
      intro w8 hb8 hg8
      have l8 := Lib.hid (run_loadS sOut b _ hb8 rfl)
      have HRS := Lib.hid (RetSet.fin (v := .agg (ocs ⟨0, x, false⟩).toArray) HG1.out HBE.out HNF.out HBL.out HF9.out H9.out hg8)
      clear hb8 hg8
      go_wp2
      exact bodyPost_ret (v := .agg (ocs ⟨0, x, false⟩).toArray) (by simp [results, Try.results17, asAddr, Sem.run_bind, Sem.run_pure, l8.out]) rfl HRS.out
theorem refused_ok {P : PSet} {p r ticks : Int} (h : refusedI P p r ticks = 0) : 0 ≤ p ∧ isR P r = true := by
  unfold refusedI at h
  by_cases h1 : p < 0
  · rw [if_pos h1] at h; omega
  rw [if_neg h1] at h
  cases h2 : isR P r with
  | false => rw [h2] at h; simp at h
  | true => exact ⟨by omega, rfl⟩
theorem Take_calls (w : World) (S : Nat) (P : PSet) (A : Nat → Option Addr) (c : Nat → Nat) (h : SetM w S P A c) (hI : Inv P) (r ticks : Int) :
    Calls Try.prog 17 #[.pointer (some ⟨S, 0, none⟩), .int .i64 r, .int .i64 ticks] w (RetSet w S A (.agg (ocs (takeS P r ticks).1).toArray) (takeS P r ticks).2) := by
  by_cases he : refusedI P (runI P) r ticks = 0
  · obtain ⟨h0, hr⟩ := refused_ok he
    obtain ⟨k, rfl, hk⟩ := isR_nat hr
    rcases run_lt hI with hrun | ⟨p, hrun, _, hp⟩
    · omega
    have e1 : takeS P k ticks = if (P.rsc k).count = 0 then if ticks = 0 then (busy, P) else (waits, park P p k ticks 0) else
        if (P.rsc k).kind = 0 then (ok, P.setR k { P.rsc k with count := (P.rsc k).count - 1 }) else
        if (P.rsc k).kind = 2 then (⟨0, (P.rsc k).items.headD 0, false⟩, takeB P k) else (ok, P) := by
      unfold takeS
      rw [if_neg (by rw [he]; simp), hrun]
      rfl
    by_cases hc : (P.rsc k).count = 0
    · by_cases ht : ticks = 0
      · rw [e1, if_pos hc, if_pos ht]
        exact take_busy w S P A c h hI k p ticks he hrun hp hk _ _ _ rfl rfl rfl hc ht
      · rw [e1, if_pos hc, if_neg ht]
        exact take_wait w S P A c h hI k p ticks he hrun hp hk _ _ _ rfl rfl rfl hc ht
    · rcases hI.kind k hk with h1 | h1 | h1
      · rw [e1, if_neg hc, if_pos h1]
        exact take_sem w S P A c h hI k p ticks he hrun hp hk _ _ _ rfl rfl rfl hc h1
      · rw [e1, if_neg hc, if_neg (by omega), if_neg (by omega)]
        exact take_sig w S P A c h hI k p ticks he hrun hp hk _ _ _ rfl rfl rfl hc h1
      · rw [e1, if_neg hc, if_neg (by omega), if_pos h1]
        have hit := hI.items k hk h1
        cases hL : (P.rsc k).items with
        | nil => rw [hL] at hit; exact absurd hit hc
        | cons x L =>
          cases hq : (P.rsc k).q with
          | nil => exact take_buf0 w S P A c h hI k p ticks he hrun hp hk _ _ _ rfl rfl rfl x L hL hc h1 hq
          | cons f rest => exact take_buf1 w S P A c h hI k p ticks he hrun hp hk _ _ _ rfl rfl rfl x L hL hc h1 f rest hq
  · have e1 : takeS P r ticks = (errO (refusedI P (runI P) r ticks), P) := by unfold takeS; rw [if_pos he]
    rw [e1]
    exact take_refused w S P A c h hI r ticks _ rfl he
end Go.Proofs.Ytgeffkdobnipgaa
