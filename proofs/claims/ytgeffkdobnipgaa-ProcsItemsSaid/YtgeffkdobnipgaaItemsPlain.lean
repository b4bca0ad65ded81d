/- A buffer's items, in plain Lean: what was given and not yet taken, in order. No program in sight. -/
import Derived.Test.YtgeffkdobnipgaaProcInv2
namespace Nac.Procs
/-- o + 1, .., i -/
def Runs (o : Int) : List Int → Int → Prop
  | [], i => o = i
  | x :: l, i => x = o + 1 ∧ Runs (o + 1) l i
theorem Runs.snoc {i : Int} : ∀ (l : List Int) {o : Int}, Runs o l i → Runs o (l ++ [i + 1]) (i + 1)
  | [], o, h => by
    have h : o = i := h
    subst h
    exact ⟨rfl, rfl⟩
  | x :: l, o, h => ⟨h.1, Runs.snoc l h.2⟩
theorem Runs.le {i : Int} : ∀ (l : List Int) {o : Int}, Runs o l i → i = o + l.length
  | [], o, h => by
    have h : o = i := h
    subst h
    simp
  | x :: l, o, h => by
    have := Runs.le l h.2
    simp
    omega
/-- what was given and not yet taken: in the buffer, and by those that wait to give -/
def pend (P : PSet) : List Int := (P.rsc 0).items ++ (if (P.rsc 0).count = 0 then [] else (P.rsc 0).q.map fun p => (P.proc p).item)
structure ItI (P : PSet) (i o : Int) : Prop where
  inv : Inv P
  n : P.ps.length = 2
  m : P.rs.length = 1
  kind : (P.rsc 0).kind = 2
  runs : Runs o (pend P) i
variable {P : PSet} {i o : Int}
theorem ItI.ref {p : Nat} (h : ItI P i o) (hrun : runI P = p) : refusedI P (runI P) 0 9 = 0 := by
  unfold refusedI
  rw [if_neg (by omega), if_neg, if_neg (by decide)]
  unfold isR
  simp [h.m]
theorem park_rsc {p r : Nat} (hI : Inv P) (hr : r < P.rs.length) (hn : p ∉ (P.rsc r).q) (ticks item : Int) : (park P p r ticks item).rsc r = { P.rsc r with q := (P.rsc r).q ++ [p] } := by
  rw [park_res, rsc_setR (by show r < (leave P p).rs.length; rw [leave_m]; exact hr), hI.leave_rsc p r hr, without_out hn]
theorem park_proc {p r : Nat} (hp : p < P.ps.length) (ticks item : Int) : (park P p r ticks item).proc p = { P.proc p with st := 2, res := r, left := ticks, item := item } := by
  rw [park_res]
  show ((leave P p).setP p _).proc p = _
  rw [proc_setP (by rw [leave_n]; exact hp), leave_proc hp]
theorem park_proc_ne {p q r : Nat} (h : q ≠ p) (ticks item : Int) : (park P p r ticks item).proc q = P.proc q := by
  rw [park_res]
  show ((leave P p).setP p _).proc q = _
  rw [proc_setP_ne h, leave_proc_ne h]
theorem park_n (p r : Nat) (ticks item : Int) : (park P p r ticks item).ps.length = P.ps.length := by
  rw [park_res]
  show ((leave P p).setP p _).ps.length = _
  rw [ps_setP, leave_n]
theorem park_m (p r : Nat) (ticks item : Int) : (park P p r ticks item).rs.length = P.rs.length := by
  rw [park_res, rs_setR]
  show (leave P p).rs.length = _
  rw [leave_m]
theorem run_nq {p : Nat} (hI : Inv P) (hp : p ∈ P.ready) (r : Nat) (hr : r < P.rs.length) : p ∉ (P.rsc r).q := fun hm => by
  have h1 := ((hI.rdy p).1 hp).2.1
  have h2 := ((hI.qin r hr p).1 hm).2.1
  omega
theorem map_item_ne {p : Nat} {l : List Nat} {P' : PSet} (hp : p ∉ l) (h : ∀ q, q ≠ p → (P'.proc q).item = (P.proc q).item) : (l.map fun q => (P'.proc q).item) = l.map fun q => (P.proc q).item := by
  refine List.map_congr_left fun q hq => h q fun e => hp (e ▸ hq)
theorem without_self_head {f : Nat} {rest : List Nat} (hnd : (f :: rest).Nodup) : f ∉ rest := (List.nodup_cons.1 hnd).1
/-- to give -/
theorem ItI.give (h : ItI P i o) {p : Nat} (hrun : runI P = p) (hp : p ∈ P.ready) : ∃ o', ItI (giveS P 0 (i + 1) 9).2 (i + 1) o' ∧
    (o' = o ∧ ((P.rsc 0).q = [] ∨ (P.rsc 0).count ≠ 0) ∨ o' = o + 1 ∧ (P.rsc 0).count = 0 ∧ ∃ f rest, (P.rsc 0).q = f :: rest ∧ lastO (giveS P 0 (i + 1) 9).2 f = ⟨0, o + 1, false⟩) := by
  have hm : 0 < P.rs.length := by rw [h.m]; decide
  have hmo := h.inv.most 0 hm
  have hcn := h.inv.cnt 0 hm
  have hit := h.inv.items 0 hm h.kind
  have hpn := ((h.inv.rdy p).1 hp).1
  have hinv := give_inv h.inv 0 (i + 1) 9
  have e1 : giveS P 0 (i + 1) 9 = giveB P 0 (i + 1) 9 := by
    unfold giveS
    rw [if_neg (by rw [h.ref hrun]; simp)]
    have hk : (P.rsc ((0 : Int)).toNat).kind = 2 := h.kind
    rw [if_neg (by omega), if_pos hk]
    rfl
  rw [e1] at hinv ⊢
  have hr := h.runs
  unfold pend at hr
  by_cases hcm : (P.rsc 0).count = (P.rsc 0).most
  · have e2 : giveB P 0 (i + 1) 9 = (waits, park P p (0 : Nat) 9 (i + 1)) := by
      unfold giveB
      rw [if_pos hcm, if_neg (by decide), hrun]
      rfl
    rw [e2] at hinv ⊢
    have hnq := run_nq h.inv hp 0 hm
    have hc0 : (P.rsc 0).count ≠ 0 := by omega
    refine ⟨o, ⟨hinv, by show (park P p (0 : Nat) 9 (i + 1)).ps.length = 2; rw [park_n]; exact h.n, by show (park P p (0 : Nat) 9 (i + 1)).rs.length = 1; rw [park_m]; exact h.m, by show ((park P p (0 : Nat) 9 (i + 1)).rsc 0).kind = 2; rw [park_rsc h.inv hm hnq]; exact h.kind, ?_⟩, .inl ⟨rfl, .inr hc0⟩⟩
    show Runs o (pend (park P p (0 : Nat) 9 (i + 1))) (i + 1)
    unfold pend
    rw [park_rsc h.inv hm hnq]
    show Runs o ((P.rsc 0).items ++ if (P.rsc 0).count = 0 then [] else ((P.rsc 0).q ++ [p]).map fun q => ((park P p (0 : Nat) 9 (i + 1)).proc q).item) (i + 1)
    rw [if_neg hc0] at hr ⊢
    rw [List.map_append, map_item_ne (P := P) (p := p) hnq (fun q hq => by rw [park_proc_ne hq]), List.map_cons, List.map_nil, park_proc hpn, ← List.append_assoc]
    exact hr.snoc
  · cases hq : (P.rsc 0).q with
    | cons f rest =>
      have hc0 : (P.rsc 0).count = 0 := by
        rcases h.inv.emp 0 hm (by simp) (by rw [hq]; simp) with h1 | h1
        · exact h1
        · exact absurd h1.2 hcm
      have hfn := ((h.inv.qin 0 hm f).1 (by rw [hq]; simp)).1
      have e2 : giveB P 0 (i + 1) 9 = (ok, release P f ⟨0, i + 1, false⟩) := by
        unfold giveB
        rw [if_neg hcm]
        split
        · rename_i f' r' h
          rw [hq] at h
          injection h with h2 h3
          rw [h2]
        · rename_i h; rw [hq] at h; cases h
      rw [e2] at hinv ⊢
      have hi0 : (P.rsc 0).items = [] := List.eq_nil_of_length_eq_zero (by omega)
      rw [hi0, if_pos hc0] at hr
      have hoi : o = i := hr
      have hrr : (release P f ⟨0, i + 1, false⟩).rsc 0 = { P.rsc 0 with q := without (P.rsc 0).q f } := by rw [release_rsc, h.inv.leave_rsc f 0 hm]
      refine ⟨o + 1, ⟨hinv, by show (release P f _).ps.length = 2; rw [release_n]; exact h.n, by show (release P f _).rs.length = 1; rw [release_m]; exact h.m, by show ((release P f _).rsc 0).kind = 2; rw [hrr]; exact h.kind, ?_⟩, .inr ⟨rfl, hc0, f, rest, rfl, ?_⟩⟩
      · show Runs (o + 1) (pend (release P f ⟨0, i + 1, false⟩)) (i + 1)
        unfold pend
        rw [hrr]
        show Runs (o + 1) ((P.rsc 0).items ++ if (P.rsc 0).count = 0 then [] else _) (i + 1)
        rw [hi0, if_pos hc0]
        show o + 1 = i + 1
        rw [hoi]
      · unfold lastO
        have hif : isP (release P f ⟨0, i + 1, false⟩) (f : Int) = true := by unfold isP; rw [release_n]; simp; exact hfn
        show (if isP (release P f ⟨0, i + 1, false⟩) (f : Int) = true then ((release P f ⟨0, i + 1, false⟩).proc (f : Int).toNat).last else ok) = _
        rw [if_pos hif, show ((f : Int)).toNat = f from rfl, release_proc hfn, hoi]
    | nil =>
      have e3 : (P.setR 0 { P.rsc 0 with items := (P.rsc 0).items ++ [i + 1] }).rsc 0 = { P.rsc 0 with items := (P.rsc 0).items ++ [i + 1] } := rsc_setR hm _
      have e2 : (giveB P 0 (i + 1) 9).2 = P.setR 0 { P.rsc 0 with items := (P.rsc 0).items ++ [i + 1], count := (P.rsc 0).count + 1 } := by
        unfold giveB
        rw [if_neg hcm]
        split
        · rename_i h; rw [hq] at h; cases h
        · unfold more
          rw [e3]
          split
          · rename_i h; rw [show ({ P.rsc 0 with items := (P.rsc 0).items ++ [i + 1] } : Rsc).q = (P.rsc 0).q from rfl, hq] at h; cases h
          · rw [if_neg hcm]
            exact setR_setR _ _ _
      rw [e2] at hinv ⊢
      refine ⟨o, ⟨hinv, h.n, by rw [rs_setR]; exact h.m, by rw [rsc_setR hm]; exact h.kind, ?_⟩, .inl ⟨rfl, .inl rfl⟩⟩
      unfold pend
      rw [rsc_setR hm]
      show Runs o (((P.rsc 0).items ++ [i + 1]) ++ if (P.rsc 0).count + 1 = 0 then [] else (P.rsc 0).q.map _) (i + 1)
      rw [hq] at hr ⊢
      have h9 : ∀ (c : Prop) [Decidable c] (g : Nat → Int), (if c then ([] : List Int) else ([] : List Nat).map g) = [] := fun c _ g => by split <;> rfl
      rw [h9] at hr ⊢
      rw [List.append_nil] at hr ⊢
      exact hr.snoc
/-- to take -/
theorem ItI.take (h : ItI P i o) {p : Nat} (hrun : runI P = p) (hp : p ∈ P.ready) : ∃ o', ItI (takeS P 0 9).2 i o' ∧ (o' = o ∧ (takeS P 0 9).1 = waits ∨ o' = o + 1 ∧ (takeS P 0 9).1 = ⟨0, o + 1, false⟩) := by
  have hm : 0 < P.rs.length := by rw [h.m]; decide
  have hmo := h.inv.most 0 hm
  have hcn := h.inv.cnt 0 hm
  have hit := h.inv.items 0 hm h.kind
  have hpn := ((h.inv.rdy p).1 hp).1
  have hinv := take_inv h.inv 0 9
  have hr := h.runs
  unfold pend at hr
  by_cases hc0 : (P.rsc 0).count = 0
  · have e2 : takeS P 0 9 = (waits, park P p (0 : Nat) 9 0) := by
      unfold takeS
      rw [if_neg (by rw [h.ref hrun]; simp), if_pos (show (P.rsc ((0 : Int)).toNat).count = 0 from hc0), if_neg (by decide), hrun]
      rfl
    rw [e2] at hinv ⊢
    have hnq := run_nq h.inv hp 0 hm
    refine ⟨o, ⟨hinv, by show (park P p (0 : Nat) 9 0).ps.length = 2; rw [park_n]; exact h.n, by show (park P p (0 : Nat) 9 0).rs.length = 1; rw [park_m]; exact h.m, by show ((park P p (0 : Nat) 9 0).rsc 0).kind = 2; rw [park_rsc h.inv hm hnq]; exact h.kind, ?_⟩, .inl ⟨rfl, rfl⟩⟩
    show Runs o (pend (park P p (0 : Nat) 9 0)) i
    unfold pend
    rw [park_rsc h.inv hm hnq]
    show Runs o ((P.rsc 0).items ++ if (P.rsc 0).count = 0 then [] else _) i
    rw [if_pos hc0] at hr ⊢
    exact hr
  · have e2 : takeS P 0 9 = (⟨0, (P.rsc 0).items.headD 0, false⟩, takeB P 0) := by
      unfold takeS
      rw [if_neg (by rw [h.ref hrun]; simp), if_neg (show ¬ (P.rsc ((0 : Int)).toNat).count = 0 from hc0)]
      have hk : (P.rsc ((0 : Int)).toNat).kind = 2 := h.kind
      rw [if_neg (by omega), if_pos hk]
      rfl
    rw [e2] at hinv ⊢
    cases hL : (P.rsc 0).items with
    | nil => rw [hL] at hit; exact absurd hit hc0
    | cons x L =>
      rw [if_neg hc0, hL] at hr
      have hr1 : x = o + 1 := hr.1
      have hr2 : Runs (o + 1) (L ++ (P.rsc 0).q.map fun p => (P.proc p).item) i := hr.2
      cases hq : (P.rsc 0).q with
      | nil =>
        have e3 : takeB P 0 = P.setR 0 { P.rsc 0 with items := L, count := L.length } := by rw [takeB_nil hm hq hL, rsc_setR hm, setR_setR]
        rw [e3] at hinv ⊢
        refine ⟨o + 1, ⟨hinv, h.n, by show (P.setR 0 _).rs.length = 1; rw [rs_setR]; exact h.m, by show ((P.setR 0 _).rsc 0).kind = 2; rw [rsc_setR hm]; exact h.kind, ?_⟩, .inr ⟨rfl, by rw [← hr1]; rfl⟩⟩
        show Runs (o + 1) (pend (P.setR 0 { P.rsc 0 with items := L, count := L.length })) i
        unfold pend
        rw [rsc_setR hm]
        show Runs (o + 1) (L ++ if (L.length : Int) = 0 then [] else (P.rsc 0).q.map _) i
        rw [hq] at hr2 ⊢
        have h9 : ∀ (c : Prop) [Decidable c] (g : Nat → Int), (if c then ([] : List Int) else ([] : List Nat).map g) = [] := fun c _ g => by split <;> rfl
        rw [h9]
        exact hr2
      | cons f rest =>
        have hfn := ((h.inv.qin 0 hm f).1 (by rw [hq]; simp)).1
        have hnd := h.inv.qnd 0 hm
        rw [hq] at hnd
        have hnr := without_self_head hnd
        obtain ⟨P1, hP1⟩ : ∃ P1, P1 = P.setR 0 { P.rsc 0 with items := L ++ [(P.proc f).item] } := ⟨_, rfl⟩
        have hr11 : P1.rsc 0 = { P.rsc 0 with items := L ++ [(P.proc f).item] } := by rw [hP1, rsc_setR hm]
        have hm1 : 0 < P1.rs.length := by rw [hP1, rs_setR]; exact hm
        have hmost : (P.rsc 0).count = (P.rsc 0).most := by
          rcases h.inv.emp 0 hm (by simp) (by rw [hq]; simp) with h1 | h1
          · exact absurd h1 hc0
          · exact h1.2
        have h1 : Inv P1 := by
          rw [hP1]
          exact h.inv.setR hm rfl rfl rfl hcn (fun _ => by show (P.rsc 0).count = ((L ++ [(P.proc f).item]).length : Nat); rw [hit, hL]; simp) (fun _ _ h => h) (fun _ _ => .inr ⟨h.kind, hmost⟩)
        have hrel : (release P1 f ok).rsc 0 = { P1.rsc 0 with q := without (P1.rsc 0).q f } := by rw [release_rsc, h1.leave_rsc f 0 hm1]
        have hqr : ((release P1 f ok).rsc 0).q = rest := by rw [hrel, hr11]; show without (P.rsc 0).q f = rest; rw [hq, without_head hnd]
        have e3 : takeB P 0 = (release P1 f ok).setR 0 { (release P1 f ok).rsc 0 with count := (((release P1 f ok).rsc 0).items.length : Nat) } := by rw [takeB_cons hq hL, hP1]
        have hm2 : 0 < (release P1 f ok).rs.length := by rw [release_m]; exact hm1
        rw [e3] at hinv ⊢
        refine ⟨o + 1, ⟨hinv, by show (release P1 f ok).ps.length = 2; rw [release_n, hP1]; exact h.n, by show ((release P1 f ok).setR 0 _).rs.length = 1; rw [rs_setR, release_m, hP1, rs_setR]; exact h.m, by show (((release P1 f ok).setR 0 _).rsc 0).kind = 2; rw [rsc_setR hm2, hrel, hr11]; exact h.kind, ?_⟩, .inr ⟨rfl, by rw [← hr1]; rfl⟩⟩
        show Runs (o + 1) (pend ((release P1 f ok).setR 0 { (release P1 f ok).rsc 0 with count := (((release P1 f ok).rsc 0).items.length : Nat) })) i
        unfold pend
        rw [rsc_setR hm2]
        show Runs (o + 1) (((release P1 f ok).rsc 0).items ++ if ((((release P1 f ok).rsc 0).items.length : Nat) : Int) = 0 then [] else ((release P1 f ok).rsc 0).q.map fun p => ((release P1 f ok).proc p).item) i
        have hitm : ((release P1 f ok).rsc 0).items = L ++ [(P.proc f).item] := by rw [hrel, hr11]
        rw [hqr, hitm, if_neg (by simp; omega), map_item_ne (P := P) (p := f) hnr (fun q hq' => by rw [release_proc_ne hq', hP1]; rfl)]
        rw [hq, List.map_cons] at hr2
        rw [List.append_assoc]
        exact hr2
end Nac.Procs
