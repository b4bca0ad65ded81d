/- What holds of every set is kept by every call, call by call. No program in sight. -/
import Derived.Test.YtgeffkdobnipgaaProcInv
namespace Nac.Procs
variable {P : PSet} {x ex : Option Nat}
theorem InvX.dormant (h : InvX P none ex) {p : Nat} (h0 : (P.proc p).st = 0) : InvX P (some p) ex :=
  { h with
    rdy := fun q => by
      rw [h.rdy q]
      exact ⟨fun ⟨a, b, _⟩ => ⟨a, b, fun e => by injection e with e; subst e; omega⟩, fun ⟨a, b, _⟩ => ⟨a, b, by simp⟩⟩
    qin := fun r hr q => by
      rw [h.qin r hr q]
      exact ⟨fun ⟨a, b, c, _⟩ => ⟨a, b, c, fun e => by injection e with e; subst e; omega⟩, fun ⟨a, b, c, _⟩ => ⟨a, b, c, by simp⟩⟩
    left := fun q hq h2 _ => h.left q hq h2 (by simp) }
theorem start_inv (h : Inv P) (p : Int) : Inv (startS P p).2 := by
  unfold startS
  split
  · rename_i hp
    obtain ⟨k, rfl, hk⟩ := isP_nat hp
    split
    · rename_i h0
      exact (h.dormant h0).wake hk
    · exact h
  · exact h
theorem stop_inv (h : Inv P) (p : Int) : Inv (stopS P p).2 := by
  unfold stopS
  split
  · rename_i hp
    obtain ⟨k, rfl, hk⟩ := isP_nat hp
    split
    · exact h
    · exact InvX.dorm (h.leave hk) (by rw [leave_n]; exact hk)
  · exact h
/-- into a row -/
theorem InvX.enq {p r : Nat} (h : InvX P (some p) none) (hp : p < P.ps.length) (hr : r < P.rs.length) (h2 : (P.proc p).st = 2) (h3 : (P.proc p).res = r) (hl : 1 ≤ (P.proc p).left ∧ (P.proc p).left ≤ 1048576) (hc : (P.rsc r).count = 0 ∨ ((P.rsc r).kind = 2 ∧ (P.rsc r).count = (P.rsc r).most)) :
    Inv (P.setR r { P.rsc r with q := (P.rsc r).q ++ [p] }) := by
  have hm := rs_setR (P := P) r { P.rsc r with q := (P.rsc r).q ++ [p] }
  have hrr : (P.setR r { P.rsc r with q := (P.rsc r).q ++ [p] }).rsc r = { P.rsc r with q := (P.rsc r).q ++ [p] } := rsc_setR hr _
  have hne : ∀ i, i ≠ r → (P.setR r { P.rsc r with q := (P.rsc r).q ++ [p] }).rsc i = P.rsc i := fun i e => rsc_setR_ne e _
  refine ⟨h.n1, h.n8, by rw [hm]; exact h.r8, h.rnd, fun q => ?_, fun i hi => ?_, fun i hi q => ?_, h.st, h.pr, fun q hq h2 => ?_, fun q hq h2' _ => ?_, fun i hi => ?_, fun i hi => ?_, fun i hi => ?_, fun i hi' h2 => ?_, fun i hi _ h3 => ?_⟩
  · show q ∈ P.ready ↔ _ ∧ (P.proc q).st = 1 ∧ _
    rw [h.rdy q]
    exact ⟨fun ⟨a, b, _⟩ => ⟨a, b, by simp⟩, fun ⟨a, b, _⟩ => ⟨a, b, fun e => by injection e with e; subst e; omega⟩⟩
  · rw [hm] at hi
    by_cases e : i = r
    · subst e
      rw [hrr]
      show ((P.rsc i).q ++ [p]).Nodup
      rw [List.nodup_append]
      exact ⟨h.qnd i hi, by simp, fun a ha b hb e => by simp at hb; subst hb; subst e; exact h.nq i hi ha⟩
    · rw [hne i e]; exact h.qnd i hi
  · rw [hm] at hi
    show _ ↔ q < P.ps.length ∧ (P.proc q).st = 2 ∧ (P.proc q).res = i ∧ _
    by_cases e : i = r
    · subst e
      rw [hrr]
      show q ∈ (P.rsc i).q ++ [p] ↔ _
      rw [List.mem_append, h.qin i hi q]
      constructor
      · rintro (⟨a, b, c, _⟩ | hq)
        · exact ⟨a, b, c, by simp⟩
        · simp at hq; subst hq; exact ⟨hp, h2, h3, by simp⟩
      · rintro ⟨a, b, c, _⟩
        by_cases e : q = p
        · subst e; exact .inr (by simp)
        · exact .inl ⟨a, b, c, fun e' => e (by injection e' with e'; exact e'.symm)⟩
    · rw [hne i e, h.qin i hi q]
      constructor
      · rintro ⟨a, b, c, _⟩; exact ⟨a, b, c, by simp⟩
      · rintro ⟨a, b, c, _⟩
        exact ⟨a, b, c, fun e' => by injection e' with e'; subst e'; rw [h3] at c; omega⟩
  · rw [hm]; exact h.res q hq h2
  · by_cases e : q = p
    · subst e; exact hl
    · exact h.left q hq h2' fun e' => e (by injection e' with e'; exact e'.symm)
  · rw [hm] at hi
    by_cases e : i = r
    · subst e; rw [hrr]; exact h.kind i hi
    · rw [hne i e]; exact h.kind i hi
  · rw [hm] at hi
    by_cases e : i = r
    · subst e; rw [hrr]; exact h.most i hi
    · rw [hne i e]; exact h.most i hi
  · rw [hm] at hi
    by_cases e : i = r
    · subst e; rw [hrr]; exact h.cnt i hi
    · rw [hne i e]; exact h.cnt i hi
  · rw [hm] at hi'
    by_cases e : i = r
    · subst e; rw [hrr] at h2 ⊢; exact h.items i hi' h2
    · rw [hne i e] at h2 ⊢; exact h.items i hi' h2
  · rw [hm] at hi
    by_cases e : i = r
    · subst e; rw [hrr]; exact hc
    · rw [hne i e] at h3 ⊢; exact h.emp i hi (by simp) h3
theorem park_time_inv (h : Inv P) {p : Nat} (hp : p < P.ps.length) (ticks item : Int) (ht : 1 ≤ ticks ∧ ticks ≤ 1048576) : Inv (park P p (-1) ticks item) := by
  rw [park_time]
  have h1 := h.leave hp
  have hp1 : p < (leave P p).ps.length := by rw [leave_n]; exact hp
  exact h1.setP hp1 (y := { (leave P p).proc p with st := 2, res := -1, left := ticks, item := item }) (L := (leave P p).ready) (x' := none) rfl (fun q hq => some_ne hq) h1.rnd
    ⟨fun hm => absurd hm h1.nr, fun hm => absurd (show (2 : Int) = 1 from hm.1) (by decide)⟩ (fun q _ => Iff.rfl) (fun r hr => ⟨fun hm => absurd hm (h1.nq r hr), fun hm => by have := hm.2.1; simp at this⟩) (.inr (.inr rfl)) (fun _ => .inl rfl) (fun _ _ => ht)
theorem park_res_inv (h : Inv P) {p r : Nat} (hp : p < P.ps.length) (hr : r < P.rs.length) (ticks item : Int) (ht : 1 ≤ ticks ∧ ticks ≤ 1048576) (hc : (P.rsc r).count = 0 ∨ ((P.rsc r).kind = 2 ∧ (P.rsc r).count = (P.rsc r).most)) : Inv (park P p r ticks item) := by
  rw [park_res]
  have h1 := h.leave hp
  have hp1 : p < (leave P p).ps.length := by rw [leave_n]; exact hp
  have h2 : InvX ((leave P p).setP p { (leave P p).proc p with st := 2, res := r, left := ticks, item := item }) (some p) none :=
    h1.setP hp1 (y := { (leave P p).proc p with st := 2, res := r, left := ticks, item := item }) (L := (leave P p).ready) (x' := some p) rfl (fun _ _ => Iff.rfl) h1.rnd
      ⟨fun hm => absurd hm h1.nr, fun hm => absurd (show (2 : Int) = 1 from hm.1) (by decide)⟩ (fun q _ => Iff.rfl) (fun i hi => ⟨fun hm => absurd hm (h1.nq i hi), fun hm => absurd rfl hm.2.2⟩) (.inr (.inr rfl)) (fun _ => .inr ⟨by simp, by rw [leave_m]; exact Int.ofNat_lt.2 hr⟩) (fun _ hne => absurd rfl hne)
  have hpp : ((leave P p).setP p { (leave P p).proc p with st := 2, res := r, left := ticks, item := item }).proc p = { (leave P p).proc p with st := 2, res := r, left := ticks, item := item } := proc_setP hp1 _
  have hrl : (leave P p).rsc r = { P.rsc r with q := without (P.rsc r).q p } := h.leave_rsc p r hr
  have := h2.enq (r := r) (by rw [ps_setP]; exact hp1) (by show r < (leave P p).rs.length; rw [leave_m]; exact hr) (by rw [hpp]) (by rw [hpp]) (by rw [hpp]; exact ht) (by show ((leave P p).rsc r).count = 0 ∨ (((leave P p).rsc r).kind = 2 ∧ ((leave P p).rsc r).count = ((leave P p).rsc r).most); rw [hrl]; exact hc)
  exact this
theorem badT_ok {ticks : Int} (h : badT ticks = false) (h0 : ticks ≠ 0) : 1 ≤ ticks ∧ ticks ≤ 1048576 := by
  unfold badT at h
  simp at h
  omega
theorem sleep_inv (h : Inv P) (ticks : Int) : Inv (sleepS P ticks).2 := by
  unfold sleepS
  rcases run_lt h with hrun | ⟨p, hrun, _, hp⟩
  · rw [if_pos (by omega)]; exact h
  rw [if_neg (by omega), hrun]
  cases hb : badT ticks with
  | true => exact h
  | false =>
    rw [if_neg (by simp)]
    split
    · exact InvX.wake (h.leave hp) (by show p < _; rw [leave_n]; exact hp)
    · rename_i h0
      exact park_time_inv h hp _ _ (badT_ok hb h0)
theorem takeB_inv (h : Inv P) {k : Nat} (hk : k < P.rs.length) (h2 : (P.rsc k).kind = 2) (hc : (P.rsc k).count ≠ 0) : Inv (takeB P k) := by
  have hit := h.items k hk h2
  have hcn := h.cnt k hk
  cases hL : (P.rsc k).items with
  | nil => rw [hL] at hit; exact absurd hit hc
  | cons x L =>
    rw [hL] at hit
    have hl : ((x :: L).length : Int) = L.length + 1 := by simp
    cases hq : (P.rsc k).q with
    | nil =>
      rw [takeB_nil hk hq hL, rsc_setR hk, setR_setR]
      exact h.setR hk rfl rfl rfl ⟨by simp, by show (L.length : Int) ≤ (P.rsc k).most; omega⟩ (fun _ => rfl) (fun _ _ h => h) (fun _ hne => absurd hq hne)
    | cons f rest =>
      rw [takeB_cons hq hL]
      have hf : f < P.ps.length := ((h.qin k hk f).1 (by rw [hq]; simp)).1
      have he : (P.rsc k).count = (P.rsc k).most := by
        rcases h.emp k hk (by simp) (by rw [hq]; simp) with h3 | h3
        · exact absurd h3 hc
        · exact h3.2
      have h1 : Inv (P.setR k { P.rsc k with items := L ++ [(P.proc f).item] }) := h.setR hk rfl rfl rfl hcn (fun _ => by show (P.rsc k).count = ((L ++ [(P.proc f).item]).length : Nat); rw [hit]; simp) (fun _ _ h => h) (fun _ _ => .inr ⟨h2, he⟩)
      have h3 := InvX.release h1 (p := f) hf ok
      have hm : (release (P.setR k { P.rsc k with items := L ++ [(P.proc f).item] }) f ok).rs.length = P.rs.length := by rw [release_m, rs_setR]
      have hk2 : ((release (P.setR k { P.rsc k with items := L ++ [(P.proc f).item] }) f ok).rsc k) = { P.rsc k with items := L ++ [(P.proc f).item], q := without (P.rsc k).q f } := by
        rw [release_rsc, InvX.leave_rsc h1 f k (by rw [rs_setR]; exact hk), rsc_setR hk]
      refine h3.setR (by rw [hm]; exact hk) rfl rfl rfl ?_ (fun _ => rfl) (fun _ _ h => h) ?_
      · rw [hk2]
        show 0 ≤ (((L ++ [(P.proc f).item]).length : Nat) : Int) ∧ (((L ++ [(P.proc f).item]).length : Nat) : Int) ≤ (P.rsc k).most
        simp at hl hit ⊢
        omega
      · intro _ _
        rw [hk2]
        right
        refine ⟨h2, ?_⟩
        show (((L ++ [(P.proc f).item]).length : Nat) : Int) = (P.rsc k).most
        rw [← he, hit]; simp
theorem take_inv (h : Inv P) (r ticks : Int) : Inv (takeS P r ticks).2 := by
  unfold takeS
  by_cases he : refusedI P (runI P) r ticks = 0
  · rw [if_neg (by rw [he]; simp)]
    obtain ⟨k, hk', hk⟩ : ∃ k : Nat, r = k ∧ k < P.rs.length := isR_nat (by
      unfold refusedI at he
      by_cases h1 : runI P < 0
      · rw [if_pos h1] at he; omega
      rw [if_neg h1] at he
      cases h2 : isR P r with
      | false => rw [h2] at he; simp at he
      | true => rfl)
    subst hk'
    have hb : badT ticks = false := by
      unfold refusedI at he
      split at he
      · omega
      split at he
      · omega
      split at he
      · omega
      · rename_i h3; simpa using h3
    have h0 : 0 ≤ runI P := by
      unfold refusedI at he
      split at he
      · omega
      · rename_i h1; omega
    obtain ⟨p, hrun, hp⟩ : ∃ p : Nat, runI P = p ∧ p < P.ps.length := by
      rcases run_lt h with h1 | ⟨p, h1, _, h2⟩
      · omega
      · exact ⟨p, h1, h2⟩
    rw [hrun, show ((k : Int)).toNat = k from rfl, show ((p : Int)).toNat = p from rfl]
    split
    · rename_i hc
      split
      · exact h
      · rename_i ht; exact park_res_inv h hp hk _ _ (badT_ok hb ht) (.inl hc)
    · rename_i hc
      have hcn := h.cnt k hk
      split
      · rename_i h2
        refine h.setR hk rfl rfl rfl ⟨by show 0 ≤ (P.rsc k).count - 1; omega, by show (P.rsc k).count - 1 ≤ (P.rsc k).most; omega⟩ (fun e => absurd (h2.symm.trans e) (by decide)) (fun _ _ h => h) (fun _ hne => ?_)
        rcases h.emp k hk (by simp) hne with h3 | h3
        · exact absurd h3 hc
        · rw [h3.1] at h2; exact absurd h2 (by decide)
      · split
        · rename_i h2; exact takeB_inv h hk h2 hc
        · exact h
  · rw [if_pos he]; exact h
theorem more_inv (h : Inv P) {k : Nat} (hk : k < P.rs.length) (h0 : (P.rsc k).kind ≠ 2) : Inv (more P k).2 := by
  unfold more
  split
  · rename_i f rest hq
    exact InvX.release h ((h.qin k hk f).1 (by rw [hq]; simp)).1 ok
  · rename_i hq
    split
    · exact h
    · have hcn := h.cnt k hk
      exact h.setR hk rfl rfl rfl ⟨by show 0 ≤ (P.rsc k).count + 1; omega, by show (P.rsc k).count + 1 ≤ (P.rsc k).most; omega⟩ (fun e => absurd e h0) (fun _ _ h => h) (fun _ hne => absurd hq hne)
theorem wakeAll_inv {k : Nat} : ∀ (l : List Nat) (P : PSet), InvX P none (some k) → k < P.rs.length → (P.rsc k).q = l → InvX (wakeAll P l) none (some k) ∧ ((wakeAll P l).rsc k).q = [] ∧ (wakeAll P l).rs.length = P.rs.length
  | [], P, h, hk, hq => ⟨h, hq, rfl⟩
  | f :: rest, P, h, hk, hq => by
    have hf : f < P.ps.length := ((h.qin k hk f).1 (by rw [hq]; simp)).1
    have hnd := h.qnd k hk
    rw [hq] at hnd
    have e : ((release P f ok).rsc k).q = rest := by
      rw [release_rsc, h.leave_rsc f k hk]
      show without (P.rsc k).q f = rest
      rw [hq, without_head hnd]
    obtain ⟨a, b, c⟩ := wakeAll_inv rest (release P f ok) (InvX.release h hf ok) (by rw [release_m]; exact hk) e
    exact ⟨a, b, c.trans (release_m f ok)⟩
theorem sig_inv (h : Inv P) {k : Nat} (hk : k < P.rs.length) (h1 : (P.rsc k).kind = 1) : Inv (wakeAll (upR P k) (P.rsc k).q) := by
  have hmo := h.most k hk
  have h2 : InvX (upR P k) none (some k) := h.setR hk rfl rfl rfl ⟨by show (0 : Int) ≤ 1; decide, by show (1 : Int) ≤ (P.rsc k).most; omega⟩ (fun e => absurd (h1.symm.trans e) (by decide)) (fun _ _ h => by simp) (fun e => absurd rfl e)
  obtain ⟨a, b, c⟩ := wakeAll_inv (P.rsc k).q (upR P k) h2 (by unfold upR; rw [rs_setR]; exact hk) (by unfold upR; rw [rsc_setR hk])
  have hemp : ∀ r, r < (wakeAll (upR P k) (P.rsc k).q).rs.length → none ≠ some r → ((wakeAll (upR P k) (P.rsc k).q).rsc r).q ≠ [] → ((wakeAll (upR P k) (P.rsc k).q).rsc r).count = 0 ∨ (((wakeAll (upR P k) (P.rsc k).q).rsc r).kind = 2 ∧ ((wakeAll (upR P k) (P.rsc k).q).rsc r).count = ((wakeAll (upR P k) (P.rsc k).q).rsc r).most) := fun r hr _ hne => by
    by_cases e : r = k
    · subst e; exact absurd b hne
    · exact a.emp r hr (fun e' => e (by injection e' with e'; exact e'.symm)) hne
  exact { a with emp := hemp }
theorem giveB_inv (h : Inv P) {k p : Nat} (hk : k < P.rs.length) (hrun : runI P = p) (hp : p < P.ps.length) (h2 : (P.rsc k).kind = 2) (v ticks : Int) (hb : badT ticks = false) : Inv (giveB P k v ticks).2 := by
  unfold giveB
  by_cases hcm : (P.rsc k).count = (P.rsc k).most
  · rw [if_pos hcm, hrun]
    split
    · exact h
    · rename_i ht; exact park_res_inv h hp hk _ _ (badT_ok hb ht) (.inr ⟨h2, hcm⟩)
  · rw [if_neg hcm]
    split
    · rename_i f rest hq
      exact InvX.release h ((h.qin k hk f).1 (by rw [hq]; simp)).1 _
    · rename_i hq
      have e3 : (P.setR k { P.rsc k with items := (P.rsc k).items ++ [v] }).rsc k = { P.rsc k with items := (P.rsc k).items ++ [v] } := rsc_setR hk _
      have hcn := h.cnt k hk
      have hit := h.items k hk h2
      have e4 : (more (P.setR k { P.rsc k with items := (P.rsc k).items ++ [v] }) k).2 = P.setR k { P.rsc k with items := (P.rsc k).items ++ [v], count := (P.rsc k).count + 1 } := by
        unfold more
        rw [e3]
        split
        · rename_i h; rw [show ({ P.rsc k with items := (P.rsc k).items ++ [v] } : Rsc).q = (P.rsc k).q from rfl, hq] at h; cases h
        · rw [if_neg hcm]
          exact setR_setR _ _ _
      rw [e4]
      exact h.setR hk rfl rfl rfl ⟨by show 0 ≤ (P.rsc k).count + 1; omega, by show (P.rsc k).count + 1 ≤ (P.rsc k).most; omega⟩ (fun _ => by show (P.rsc k).count + 1 = (((P.rsc k).items ++ [v]).length : Nat); simp; omega) (fun _ _ h => h) (fun _ hne => absurd hq hne)
theorem give_inv (h : Inv P) (r v ticks : Int) : Inv (giveS P r v ticks).2 := by
  unfold giveS
  by_cases he : refusedI P (runI P) r ticks = 0
  · rw [if_neg (by rw [he]; simp)]
    obtain ⟨k, hk', hk⟩ : ∃ k : Nat, r = k ∧ k < P.rs.length := isR_nat (by
      unfold refusedI at he
      by_cases h1 : runI P < 0
      · rw [if_pos h1] at he; omega
      rw [if_neg h1] at he
      cases h2 : isR P r with
      | false => rw [h2] at he; simp at he
      | true => rfl)
    subst hk'
    have hb : badT ticks = false := by
      unfold refusedI at he
      split at he
      · omega
      split at he
      · omega
      split at he
      · omega
      · rename_i h3; simpa using h3
    have h0 : 0 ≤ runI P := by
      unfold refusedI at he
      split at he
      · omega
      · rename_i h1; omega
    obtain ⟨p, hrun, hp⟩ : ∃ p : Nat, runI P = p ∧ p < P.ps.length := by
      rcases run_lt h with h1 | ⟨p, h1, _, h2⟩
      · omega
      · exact ⟨p, h1, h2⟩
    rw [show ((k : Int)).toNat = k from rfl]
    split
    · rename_i h1; exact sig_inv h hk h1
    · split
      · rename_i h2; exact giveB_inv h hk hrun hp h2 _ _ hb
      · rename_i h2
        split
        · exact more_inv h hk h2
        · exact h
  · rw [if_pos he]; exact h
theorem lower_inv (h : Inv P) (r : Int) : Inv (lowerS P r).2 := by
  unfold lowerS
  split
  · rename_i hr
    obtain ⟨k, rfl, hk⟩ := isR_nat hr
    split
    · rename_i h1
      have hmo := h.most k hk
      exact h.setR hk rfl rfl rfl ⟨by show (0 : Int) ≤ 0; decide, by show (0 : Int) ≤ (P.rsc k).most; omega⟩ (fun e => absurd (h1.symm.trans e) (by decide)) (fun _ _ h => h) (fun _ _ => .inl rfl)
    · exact h
  · exact h
theorem left_inv (h : Inv P) {p : Nat} (hp : p < P.ps.length) (z : Int) : InvX (P.setP p { P.proc p with left := z }) none none ∨ (P.proc p).st = 2 := by
  by_cases h2 : (P.proc p).st = 2
  · exact .inr h2
  · exact .inl (h.setP hp (y := { P.proc p with left := z }) (L := P.ready) rfl (fun _ _ => Iff.rfl) h.rnd ⟨fun hm => ((h.rdy p).1 hm).2, fun hm => (h.rdy p).2 ⟨hp, hm⟩⟩ (fun _ _ => Iff.rfl) (fun r hr => ⟨fun hm => ((h.qin r hr p).1 hm).2, fun hm => (h.qin r hr p).2 ⟨hp, hm⟩⟩) (h.st p hp) (h.res p hp) (fun e => absurd e h2))
/-- less to wait: then the way out of a row is the same -/
theorem leave_left (P : PSet) {p : Nat} (hp : p < P.ps.length) (z : Int) : leave (P.setP p { P.proc p with left := z }) p = leave P p := by
  have e1 : (P.setP p { P.proc p with left := z }).proc p = { P.proc p with left := z } := proc_setP hp _
  by_cases h2 : (P.proc p).st = 2 ∧ (P.proc p).res ≠ -1
  · by_cases h3 : 0 ≤ (P.proc p).res
    · obtain ⟨r, hr⟩ : ∃ r : Nat, (P.proc p).res = r := ⟨(P.proc p).res.toNat, by omega⟩
      rw [leave_in h2.1 hr (by omega), leave_in (P := P.setP p { P.proc p with left := z }) (r := r) (by rw [e1]; exact h2.1) (by rw [e1]; exact hr) (by omega), e1]
      show (((readyOf P p).setP p { P.proc p with left := z }).setR r _).setP p _ = _
      unfold PSet.setP PSet.setR readyOf
      simp [PSet.rsc]
    · unfold leave unq
      rw [show ({ P.setP p { P.proc p with left := z } with ready := without (P.setP p { P.proc p with left := z }).ready p } : PSet).proc p = { P.proc p with left := z } from e1, show ({ P with ready := without P.ready p } : PSet).proc p = P.proc p from rfl, e1]
      rw [if_pos h2, if_pos h2]
      unfold PSet.setP PSet.setR
      simp [PSet.rsc]
  · rw [leave_out h2, leave_out (P := P.setP p { P.proc p with left := z }) (by rw [e1]; exact h2), e1]
    unfold PSet.setP readyOf
    simp
theorem release_left (P : PSet) {p : Nat} (hp : p < P.ps.length) (z : Int) (o : Out) : release (P.setP p { P.proc p with left := z }) p o = release P p o := by
  unfold release
  rw [leave_left P hp z]
theorem tick1_inv (h : Inv P) {p : Nat} (hp : p < P.ps.length) : Inv (tick1 P p) := by
  unfold tick1
  split
  · rename_i h2
    split
    · rename_i hl
      have h3 := h.left p hp h2 (by simp)
      exact h.setP hp (y := { P.proc p with left := (P.proc p).left - 1 }) (L := P.ready) rfl (fun _ _ => Iff.rfl) h.rnd ⟨fun hm => ((h.rdy p).1 hm).2, fun hm => (h.rdy p).2 ⟨hp, hm⟩⟩ (fun _ _ => Iff.rfl) (fun r hr => ⟨fun hm => ((h.qin r hr p).1 hm).2, fun hm => (h.qin r hr p).2 ⟨hp, hm⟩⟩) (h.st p hp) (h.res p hp) (fun _ _ => ⟨by show 1 ≤ (P.proc p).left - 1; omega, by show (P.proc p).left - 1 ≤ 1048576; omega⟩)
    · rw [release_left P hp]
      exact InvX.release h hp _
  · exact h
theorem tick1_n (P : PSet) (p : Nat) : (tick1 P p).ps.length = P.ps.length := by
  unfold tick1
  split
  · split
    · exact ps_setP _ _
    · rw [release_n, ps_setP]
  · rfl
theorem tick1_m (P : PSet) (p : Nat) : (tick1 P p).rs.length = P.rs.length := by
  unfold tick1
  split
  · split
    · rfl
    · rw [release_m]; rfl
  · rfl
theorem tickTo_succ (P : PSet) (k : Nat) : tickTo P (k + 1) = tick1 (tickTo P k) k := by
  unfold tickTo
  rw [List.range_succ, List.foldl_append]
  rfl
theorem tickTo_inv (h : Inv P) : ∀ k, k ≤ P.ps.length → Inv (tickTo P k) ∧ (tickTo P k).ps.length = P.ps.length
  | 0, _ => ⟨h, rfl⟩
  | k + 1, hk => by
    obtain ⟨a, b⟩ := tickTo_inv h k (by omega)
    rw [tickTo_succ]
    exact ⟨tick1_inv a (by rw [b]; omega), (tick1_n _ _).trans b⟩
theorem tick_inv (h : Inv P) : Inv (tickS P) := (tickTo_inv h _ (Nat.le_refl _)).1
end Nac.Procs
