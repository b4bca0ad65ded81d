/- slices.Delete of the first item; slices.Clone; Queue. -/
import Derived.Test.YtgeffkdobnipgaaProcSleep
import Derived.Laws.OwnMore
namespace Go.Proofs.Ytgeffkdobnipgaa
open Go.RowKit Nac Nac.Procs
theorem Try.infoI64 : (Try.prog.info? 2).map (fun i => (i.zero, i.size, i.bytes)) = some (some (.int .i64 0), 1, 8) := by kernel_rfl
theorem zeroI64 (w : World) : (zeroValue 2).run Try.prog w = .ok (.int .i64 0) w := by kernel_rfl
/-- a cut of items -/
theorem run_cutI (w : World) (A : Option Addr) (n c : Nat) (hlc : n ≤ c) (lv hv : Option Value) (lo hi : Nat) (h1 : (lv = none ∧ lo = 0) ∨ lv = some (.int .i64 lo)) (h2 : (hv = none ∧ hi = n) ∨ hv = some (.int .i64 hi)) (hle : lo ≤ hi) (hhl : hi ≤ c) :
    (Instr.sliceAt 56 (.slice A n c) lv hv none).run Try.prog w = .ok (.slice (if c = lo then A else A.map (·.add (lo * 1))) (hi - lo) (c - lo)) w := by
  have hu := Try.underlying56
  have hc1 : (sizeOf 2).run Try.prog w = .ok 1 w := by
    obtain ⟨i, hi, _, hs, _⟩ := info_parts Try.infoI64
    simp [sizeOf, typeInfo, hi, hs]
  have a6 : lo ≤ c := by omega
  rcases h1 with ⟨rfl, rfl⟩ | rfl <;> rcases h2 with ⟨rfl, rfl⟩ | rfl <;>
    simp [Instr.sliceAt, Instr.slice, run_underlying hu, Instr.sliceBounds, Instr.sliceBound, asIntOf, hc1, hhl, a6, hle]
def wits (l : List Int) : List Value := l.map (Value.int .i64)
theorem wits_one (l : List Int) : ∀ u ∈ wits l, u.oneCell' = true := fun u hu => by
  obtain ⟨x, _, rfl⟩ := List.mem_map.1 hu
  rfl
def RetDelI (w : World) (A : Option Addr) (c : Nat) (L : List Int) (e : Ending) (w' : World) : Prop :=
  e = .returned (.slice A L.length c) ∧ Row w' 2 1 A c L.length (wits L) ∧ w.grownBy w' (A.map (·.block))
theorem wpList_append_fits {T E : TypeId} {z : Value} {bytes : Nat} (hT : Try.prog.underlying T = some (.slice E)) (hinfo : (Try.prog.info? E).map (fun i => (i.zero, i.size, i.bytes)) = some (some z, 1, bytes))
    (w : World) {ops : Array Oper} {rest : List Oper} {o : Oper} {a : Act} {Q : Exit → Act → World → Prop} (hgd : o.guard = none) (s x : Operand)
    (ho : o.op = .call { callee := .builtin .append, args := #[s, x], argTypes := #[T, T] })
    (g c n : Nat) (xs : List Value) (hs : a.eval s = .slice (some ⟨g, 0, none⟩) n c) (hown : Row w E 1 (some ⟨g, 0, none⟩) c n xs)
    (g2 o2 m c2 : Nat) (news : List Value) (hx : a.eval x = .slice (some ⟨g2, o2, none⟩) m c2) (hl : news.length = m) (hsrc : ∀ j u, news[j]? = some u → w.cell? ⟨g2, o2 + j, none⟩ = some u) (h1 : ∀ u ∈ news, u.oneCell' = true)
    (hroom : n + m ≤ c) (k : Nat) (hk : n + m = k)
    (h : ∀ w', Row w' E 1 (some ⟨g, 0, none⟩) c k (xs ++ news) → w.grownBy w' (some g) → wpList Try.prog ops Q rest (a.put o.dst (.slice (some ⟨g, 0, none⟩) k c)) w') : wpList Try.prog ops Q (o :: rest) a w := by
  subst hk
  obtain ⟨i, hi, hz, hs1, hb1⟩ := info_parts hinfo
  obtain ⟨w', hr, h2, h3⟩ := run_append_fits (P := Try.prog) w 0 T o.type E i 1 hT hi hs1 g n c xs hown ⟨g2, o2, none⟩ m c2 news (by rw [hl, Nat.mul_one]) (fun j u hj => by
    have := hsrc j u hj
    rw [Addr.add_mid]
    exact this) h1 hroom
  have hK := h w' h2 h3
  refine wpList_plain hgd fun K hKK => ?_
  unfold Oper.wp execOp
  simp only [ho, resolve, invoke, builtin, Sem.run_bind, Sem.run_pure, Result.andThen_ok, List.map_toArray, List.map_cons, List.map_nil, hs, hx, hr]
  exact hKK _ _ hK
theorem row_spare {w : World} {E : TypeId} {g c n k : Nat} {xs : List Value} (h : Row w E 1 (some ⟨g, 0, none⟩) c n xs) (hk : k < c) : ∃ v, w.cell? ⟨g, k, none⟩ = some v := by
  rcases h.2 with ⟨h1, _⟩ | ⟨g', cap, cur, hv, _, hg, _, _, hcs, _⟩
  · simp at h1
  · injection hv with h1 h2 h3
    injection h1 with h1
    injection h1 with h1
    subst h1 h3
    refine ⟨cur[k]'(by rw [hcs]; omega), ?_⟩
    rw [cell_of_row w g k _ E (0, 0) hg]
    simp [(show k < cur.size by rw [hcs]; omega)]
theorem row_free {w : World} {E : TypeId} {g c n k : Nat} {xs : List Value} (h : Row w E 1 (some ⟨g, 0, none⟩) c n xs) : w.frozen? ⟨g, k, none⟩ = false := World.ownsRow.frozenAt h k
theorem grown_of_below {w w' : World} {row : Option Nat} (h : Below w.heap.size w w') : w.grownBy w' row := ⟨h.os, h.tape, h.output, h.size, fun k hk _ => h.block k hk⟩
set_option maxHeartbeats 1000000 in
theorem delete_first (w : World) (A : Option Addr) (c : Nat) (x : Int) (L : List Int) (n : Nat) (hn : n = L.length + 1) (hr : Row w 2 1 A c (x :: L).length (wits (x :: L))) (h8 : n ≤ 1000) :
    Calls Try.prog 33 #[.slice A n c, .int .i64 0, .int .i64 1] w (RetDelI w A c L) := by
  obtain ⟨g, hA, hg, hc0, hf⟩ := hr.at (j := 0) (by simp [wits])
  have hcap : n ≤ c := by have := hr.cap; simp at this; omega
  have h1n : 1 ≤ n := by omega
  subst hA
  obtain ⟨m, hm⟩ : ∃ m, m = L.length := ⟨_, rfl⟩
  have hmn : n = m + 1 := by omega
  have hmc : m < c := by omega
  have HN := Lib.hid hn
  have HM := Lib.hid hm
  have HMN := Lib.hid hmn
  have HR := Lib.hid hr
  have SL1 : Hid (∀ w, (Instr.sliceAt 56 (.slice (some ⟨g, 0, none⟩) n c) none (some (.int .i64 0)) none).run Try.prog w = .ok (.slice (some ⟨g, 0, none⟩) 0 c) w) := Lib.hid fun w => by
    have := run_cutI w (some ⟨g, 0, none⟩) n c hcap none (some (.int .i64 ((0 : Nat) : Int))) 0 0 (.inl ⟨rfl, rfl⟩) (.inr rfl) (by omega) (by omega)
    rw [if_neg (by omega)] at this
    exact this
  obtain ⟨o2, ho2, SL2⟩ : ∃ o2 : Nat, (n ≠ 1 → o2 = 1) ∧ Hid (∀ w, (Instr.sliceAt 56 (.slice (some ⟨g, 0, none⟩) n c) (some (.int .i64 1)) none none).run Try.prog w = .ok (.slice (some ⟨g, o2, none⟩) m (c - 1)) w) := by
    by_cases hc1 : c = 1
    · refine ⟨0, fun h => by omega, Lib.hid fun w => ?_⟩
      have := run_cutI w (some ⟨g, 0, none⟩) n c hcap (some (.int .i64 ((1 : Nat) : Int))) none 1 n (.inr rfl) (.inl ⟨rfl, rfl⟩) (by omega) (by omega)
      rw [if_pos hc1, show n - 1 = m by omega] at this
      exact this
    · refine ⟨1, fun _ => rfl, Lib.hid fun w => ?_⟩
      have := run_cutI w (some ⟨g, 0, none⟩) n c hcap (some (.int .i64 ((1 : Nat) : Int))) none 1 n (.inr rfl) (.inl ⟨rfl, rfl⟩) (by omega) (by omega)
      rw [if_neg hc1, show n - 1 = m by omega] at this
      exact this
  have SL3 : Hid (∀ w, (Instr.sliceAt 56 (.slice (some ⟨g, 0, none⟩) m c) (some (.int .i64 (m : Int))) (some (.int .i64 (n : Int))) none).run Try.prog w = .ok (.slice (some ⟨g, m, none⟩) 1 (c - m)) w) := Lib.hid fun w => by
    have := run_cutI w (some ⟨g, 0, none⟩) m c (by omega) (some (.int .i64 (m : Int))) (some (.int .i64 (n : Int))) m n (.inr rfl) (.inr rfl) (by omega) (by omega)
    rw [if_neg (by omega)] at this
    rw [this]
    have e1 : n - m = 1 := by omega
    have e2 : (some (⟨g, 0, none⟩ : Addr)).map (·.add (m * 1)) = some ⟨g, m, none⟩ := by rw [Option.map_some, Nat.mul_one, Addr.add_mid, Nat.zero_add]
    rw [e1, e2]
  have HO2 := Lib.hid ho2
  have hmn2 : m < n := by omega
  clear hn hr hc0 hg hf ho2 hm hmn
  go_enter Try.func33, Try.ntmps33
  go_wp2_with fail
  refine region_tails 6 (fun ix9 => ([.is (.slice (some ⟨g, 0, none⟩) n c), .is (.int .i64 0), .is (.slice (some ⟨g, 0, none⟩) 0 c), .is (.slice (some ⟨g, 0, none⟩) n c), .is (.int .i64 1), .is (.slice (some ⟨g, o2, none⟩) m (c - 1))] : List VD).getD ix9 (.is undef)) [some 20, some 21, some 22, some 23, some 24, some 25] (by kernel_rfl) (by kernel_rfl) (by kernel_rfl) (by kernel_rfl) rfl (fun ii hii => ?_) ?_
  · match ii, hii with
    | 0, _ => exact mstep_first rfl (mwant_none rfl) 0 (Or.inl rfl) (by kernel_rfl) (fun _ _ => rfl)
    | 1, _ => exact mstep_first rfl (mwant_none rfl) 1 (Or.inl rfl) (by kernel_rfl) (fun _ _ => rfl)
    | 2, _ => exact mstep_pure rfl (mwant_none rfl) (fun aa ww cc => ⟨.slice (some ⟨g, 0, none⟩) 0 c, by have e0 : aa.tmps.getD 20 undef = .slice (some ⟨g, 0, none⟩) n c := cc.slot 0 20 (by kernel_rfl) rfl; have e1 : aa.tmps.getD 21 undef = .int .i64 0 := cc.slot 1 21 (by kernel_rfl) rfl; have q := SL1.out ww; simp only [execOp, Act.eval, e0, e1, Option.map_some, Option.map_none]; go_simp, rfl⟩)
    | 3, _ => exact mstep_first rfl (mwant_none rfl) 0 (Or.inl rfl) (by kernel_rfl) (fun _ _ => rfl)
    | 4, _ => exact mstep_first rfl (mwant_none rfl) 2 (Or.inl rfl) (by kernel_rfl) (fun _ _ => rfl)
    | 5, _ => exact mstep_pure rfl (mwant_none rfl) (fun aa ww cc => ⟨.slice (some ⟨g, o2, none⟩) m (c - 1), by have e0 : aa.tmps.getD 23 undef = .slice (some ⟨g, 0, none⟩) n c := cc.slot 3 23 (by kernel_rfl) rfl; have e1 : aa.tmps.getD 24 undef = .int .i64 1 := cc.slot 4 24 (by kernel_rfl) rfl; have q := SL2.out ww; simp only [execOp, Act.eval, e0, e1, Option.map_some, Option.map_none]; go_simp, rfl⟩)
    | n + 6, h => exact absurd h (by show ¬ (n + 6 < 6); omega)
  · intro VV w5 hlen hb5 hok
    match VV, hlen with
    | [v0, v1, v2, v3, v4, v5], _ =>
      obtain rfl : v0 = .slice (some ⟨g, 0, none⟩) n c := hok 0 20 rfl
      obtain rfl : v1 = .int .i64 0 := hok 1 21 rfl
      obtain rfl : v2 = .slice (some ⟨g, 0, none⟩) 0 c := hok 2 22 rfl
      obtain rfl : v3 = .slice (some ⟨g, 0, none⟩) n c := hok 3 23 rfl
      obtain rfl : v4 = .int .i64 1 := hok 4 24 rfl
      obtain rfl : v5 = .slice (some ⟨g, o2, none⟩) m (c - 1) := hok 5 25 rfl
      have HB5 := Lib.hid hb5
      clear hb5 hok
      simp only [List.zip_cons_cons, List.zip_nil_right, putsL]
      go_simp
      have HR5 : Hid (Row w5 2 1 (some ⟨g, 0, none⟩) c n (wits (x :: L))) := Lib.hid (by rw [HN.out]; exact HR.out.below HB5.out)
      have HR0 : Hid (Row w5 2 1 (some ⟨g, 0, none⟩) c 0 []) := Lib.hid (by have := HR5.out.short 0 (Nat.zero_le _); simpa using this)
      have HSRC : Hid (∀ j u, (wits L)[j]? = some u → w5.cell? ⟨g, o2 + j, none⟩ = some u) := Lib.hid fun j u hj => by
        have hjl : j < (wits L).length := (List.getElem?_eq_some_iff.1 hj).1
        have hjl2 : j < L.length := by simpa [wits] using hjl
        obtain ⟨g', hA', _, hc, _⟩ := HR5.out.at (j := j + 1) (by simp [wits]; exact hjl2)
        injection hA' with hA'
        injection hA' with hA'
        subst hA'
        rw [HO2.out (by rw [HN.out]; omega), Nat.add_comm, hc]
        rw [List.getElem?_eq_getElem hjl] at hj
        have := Option.some.inj hj
        rw [← this]
        simp [wits]
      have HLL : Hid ((wits L).length = m) := Lib.hid (by rw [HM.out]; simp [wits])
      go_wp2_with (at_builtin; refine wpList_append_fits Try.underlying56 Try.infoI64 _ rfl _ _ rfl g c 0 [] rfl HR0.out g o2 m (c - 1) (wits L) rfl HLL.out HSRC.out (wits_one L) (by omega) m (Nat.zero_add m) ?_)
      intro w6 hr6 hg6
      have HR6 : Hid (Row w6 2 1 (some ⟨g, 0, none⟩) c m (wits L)) := Lib.hid hr6
      have HCAP : Hid (∃ v, w6.cell? ⟨g, m, none⟩ = some v) := Lib.hid (by
        obtain ⟨g', hA', _, hc, _⟩ := HR5.out.at (j := m) (by rw [HM.out]; simp [wits])
        injection hA' with hA'
        injection hA' with hA'
        subst hA'
        exact row_spare hr6 hmc)
      have HG6 := Lib.hid hg6
      have HF6 : Hid (w6.frozen? ⟨g, m, none⟩ = false) := Lib.hid (row_free hr6)
      clear hr6 hg6 HR5 HR0 HSRC HLL SL1 SL2
      have q3 := SL3.out
      have hcl : ∀ ty, (Builtin.clear_ #[56] ty #[.slice (some ⟨g, m, none⟩) 1 (c - m)]).run Try.prog w6 = .ok (.tuple #[]) (w6.setCells g m (List.replicate 1 (.int .i64 0))) := fun ty =>
        Lib.run_clear_slice w6 56 2 ty (.int .i64 0) Try.underlying56 zeroI64 rfl rfl g m 1 (c - m) (by omega) (fun t ht => by
          obtain rfl : t = 0 := by omega
          obtain ⟨v, hv⟩ := HCAP.out
          rw [Nat.add_zero, hv]; rfl) (fun t ht => by
          obtain rfl : t = 0 := by omega
          exact HF6.out)
      go_wp2
      go_ret
      unfold RetDelI
      rw [← HM.out]
      exact ⟨rfl, HR6.out.setOut _ m (Nat.le_refl _), (grown_of_below HB5.out).trans (HG6.out.trans (by simpa using grown_setCells g (List.replicate 1 (.int .i64 0)) m w6))⟩
end Go.Proofs.Ytgeffkdobnipgaa
