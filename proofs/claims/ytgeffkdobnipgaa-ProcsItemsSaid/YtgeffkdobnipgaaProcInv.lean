/- What holds of every set is kept by every call. No program in sight. -/
import Derived.Test.YtgeffkdobnipgaaProcGive
namespace Nac.Procs
variable {P : PSet} {x ex : Option Nat}
theorem mem_without {l : List Nat} {p q : Nat} : q ∈ without l p ↔ q ∈ l ∧ q ≠ p := by
  unfold without
  rw [List.mem_filter]
  simp
theorem nodup_without {l : List Nat} (p : Nat) (h : l.Nodup) : (without l p).Nodup := h.sublist List.filter_sublist
theorem without_out {l : List Nat} {p : Nat} (h : p ∉ l) : without l p = l := by
  unfold without
  rw [List.filter_eq_self]
  intro y hy
  have : y ≠ p := fun e => h (e ▸ hy)
  simp [this]
theorem InvX.leave_rsc (h : InvX P none ex) (p r : Nat) (hr : r < P.rs.length) : (leave P p).rsc r = { P.rsc r with q := without (P.rsc r).q p } := by
  by_cases h2 : (P.proc p).st = 2 ∧ (P.proc p).res = r
  · exact leave_q_in hr h2.1 h2.2
  · have hno : p ∉ (P.rsc r).q := fun hm => by
      have := (h.qin r hr p).1 hm
      exact h2 ⟨this.2.1, this.2.2.1⟩
    rw [without_out hno]
    show (unq (readyOf P p) p).rsc r = P.rsc r
    unfold unq
    split
    · rename_i h3
      have h4 : ((readyOf P p).proc p) = P.proc p := rfl
      rw [h4] at h3 ⊢
      have hne : r ≠ (P.proc p).res.toNat := fun e => by
        rcases Nat.lt_or_ge p P.ps.length with hp | hp
        · rcases h.res p hp h3.1 with h5 | h5
          · exact h3.2 h5
          · exact h2 ⟨h3.1, by omega⟩
        · rw [proc_out hp] at h3; exact absurd h3.1 (by decide)
      rw [rsc_setR_ne hne]; rfl
    · rfl
theorem InvX.leave (h : InvX P none ex) {p : Nat} (hp : p < P.ps.length) : InvX (leave P p) (some p) ex := by
  have hn := leave_n (P := P) p
  have hm := leave_m (P := P) p
  have hpp := leave_proc hp
  have hne := fun q (e : q ≠ p) => leave_proc_ne (P := P) e
  have hst : ∀ q, ((Nac.Procs.leave P p).proc q).st = (P.proc q).st := fun q => by
    by_cases e : q = p
    · subst e; rw [hpp]
    · rw [hne q e]
  refine ⟨by rw [hn]; exact h.n1, by rw [hn]; exact h.n8, by rw [hm]; exact h.r8, by rw [leave_ready]; exact nodup_without p h.rnd, fun q => ?_, fun r hr => ?_, fun r hr q => ?_, fun q hq => ?_, fun q hq => ?_, fun q hq h2 => ?_, fun q hq h2 h3 => ?_, fun r hr => ?_, fun r hr => ?_, fun r hr => ?_, fun r hr hk => ?_, fun r hr he hq => ?_⟩
  · rw [leave_ready, mem_without, h.rdy q, hn, hst q]
    constructor
    · rintro ⟨⟨h1, h2, _⟩, h3⟩
      exact ⟨h1, h2, fun e => h3 (by injection e with e; exact e.symm)⟩
    · rintro ⟨h1, h2, h3⟩
      exact ⟨⟨h1, h2, by simp⟩, fun e => h3 (by rw [e])⟩
  · rw [hm] at hr
    rw [h.leave_rsc p r hr]
    exact nodup_without p (h.qnd r hr)
  · rw [hm] at hr
    rw [h.leave_rsc p r hr]
    show q ∈ without (P.rsc r).q p ↔ _
    rw [mem_without, h.qin r hr q, hn]
    constructor
    · rintro ⟨⟨h1, h2, h3, _⟩, h4⟩
      rw [hne q h4]
      exact ⟨h1, h2, h3, fun e => h4 (by injection e with e; exact e.symm)⟩
    · rintro ⟨h1, h2, h3, h4⟩
      have h5 : q ≠ p := fun e => h4 (by rw [e])
      rw [hne q h5] at h2 h3
      exact ⟨⟨h1, h2, h3, by simp⟩, h5⟩
  · rw [hn] at hq; rw [hst]; exact h.st q hq
  · rw [hn] at hq
    by_cases e : q = p
    · subst e; rw [hpp]; exact h.pr q hq
    · rw [hne q e]; exact h.pr q hq
  · rw [hn] at hq
    rw [hm]
    by_cases e : q = p
    · subst e; rw [hpp]; exact .inl rfl
    · rw [hne q e] at h2 ⊢; exact h.res q hq h2
  · rw [hn] at hq
    have e : q ≠ p := fun e => h3 (by rw [e])
    rw [hne q e] at h2 ⊢
    exact h.left q hq h2 (by simp)
  · rw [hm] at hr; rw [h.leave_rsc p r hr]; exact h.kind r hr
  · rw [hm] at hr; rw [h.leave_rsc p r hr]; exact h.most r hr
  · rw [hm] at hr; rw [h.leave_rsc p r hr]; exact h.cnt r hr
  · rw [hm] at hr; rw [h.leave_rsc p r hr] at hk ⊢; exact h.items r hr hk
  · rw [hm] at hr
    rw [h.leave_rsc p r hr] at hq ⊢
    refine h.emp r hr he fun e => hq ?_
    show without (P.rsc r).q p = []
    rw [e]; rfl
/-- one process anew, the rest as it was -/
theorem InvX.setP (h : InvX P x ex) {p : Nat} (hp : p < P.ps.length) {y : Prc} {L : List Nat} {x' : Option Nat} (hpr : y.pr = (P.proc p).pr)
    (hx : ∀ q, q ≠ p → (x' = some q ↔ x = some q))
    (hL : L.Nodup) (hLp : p ∈ L ↔ y.st = 1 ∧ x' ≠ some p) (hLq : ∀ q, q ≠ p → (q ∈ L ↔ q ∈ P.ready))
    (hqs : ∀ r, r < P.rs.length → (p ∈ (P.rsc r).q ↔ y.st = 2 ∧ y.res = r ∧ x' ≠ some p))
    (hst : y.st = 0 ∨ y.st = 1 ∨ y.st = 2) (hres : y.st = 2 → y.res = -1 ∨ (0 ≤ y.res ∧ y.res < P.rs.length)) (hleft : y.st = 2 → x' ≠ some p → 1 ≤ y.left ∧ y.left ≤ 1048576) :
    InvX { P.setP p y with ready := L } x' ex := by
  have hpp : ({ P.setP p y with ready := L } : PSet).proc p = y := proc_setP hp y
  have hne : ∀ q, q ≠ p → ({ P.setP p y with ready := L } : PSet).proc q = P.proc q := fun q e => proc_setP_ne e y
  have hn : ({ P.setP p y with ready := L } : PSet).ps.length = P.ps.length := ps_setP p y
  refine ⟨by rw [hn]; exact h.n1, by rw [hn]; exact h.n8, h.r8, hL, fun q => ?_, h.qnd, fun r hr q => ?_, fun q hq => ?_, fun q hq => ?_, fun q hq h2 => ?_, fun q hq h2 h3 => ?_, h.kind, h.most, h.cnt, h.items, h.emp⟩
  · show q ∈ L ↔ _
    by_cases e : q = p
    · subst e; rw [hLp, hpp, hn]
      exact ⟨fun h => ⟨hp, h⟩, fun h => h.2⟩
    · rw [hLq q e, h.rdy q, hne q e, hn]
      have := hx q e
      exact ⟨fun ⟨a, b, c⟩ => ⟨a, b, fun d => c (this.1 d)⟩, fun ⟨a, b, c⟩ => ⟨a, b, fun d => c (this.2 d)⟩⟩
  · show q ∈ (P.rsc r).q ↔ _
    by_cases e : q = p
    · subst e; rw [hqs r hr, hpp, hn]
      exact ⟨fun h => ⟨hp, h⟩, fun h => h.2⟩
    · rw [h.qin r hr q, hne q e, hn]
      have := hx q e
      exact ⟨fun ⟨a, b, c, d⟩ => ⟨a, b, c, fun f => d (this.1 f)⟩, fun ⟨a, b, c, d⟩ => ⟨a, b, c, fun f => d (this.2 f)⟩⟩
  · rw [hn] at hq
    by_cases e : q = p
    · subst e; rw [hpp]; exact hst
    · rw [hne q e]; exact h.st q hq
  · rw [hn] at hq
    by_cases e : q = p
    · subst e; rw [hpp, hpr]; exact h.pr q hq
    · rw [hne q e]; exact h.pr q hq
  · rw [hn] at hq
    show _ ∨ (_ ∧ _ < (P.rs.length : Int))
    by_cases e : q = p
    · subst e; rw [hpp] at h2 ⊢; exact hres h2
    · rw [hne q e] at h2 ⊢; exact h.res q hq h2
  · rw [hn] at hq
    by_cases e : q = p
    · subst e; rw [hpp] at h2 ⊢; exact hleft h2 h3
    · rw [hne q e] at h2 ⊢; exact h.left q hq h2 fun d => h3 ((hx q e).2 d)
/-- the last outcome alone -/
theorem InvX.last (h : InvX P x ex) {p : Nat} (hp : p < P.ps.length) (o : Out) : InvX (P.setP p { P.proc p with last := o }) x ex :=
  h.setP hp (y := { P.proc p with last := o }) (L := P.ready) rfl (fun _ _ => Iff.rfl) h.rnd ⟨fun hm => ((h.rdy p).1 hm).2, fun hm => (h.rdy p).2 ⟨hp, hm⟩⟩ (fun _ _ => Iff.rfl) (fun r hr => ⟨fun hm => ((h.qin r hr p).1 hm).2, fun hm => (h.qin r hr p).2 ⟨hp, hm⟩⟩) (h.st p hp) (h.res p hp) (h.left p hp)
theorem InvX.nq {p : Nat} (h : InvX P (some p) ex) : ∀ r, r < P.rs.length → p ∉ (P.rsc r).q := fun r hr hm => ((h.qin r hr p).1 hm).2.2.2 rfl
theorem InvX.nr {p : Nat} (h : InvX P (some p) ex) : p ∉ P.ready := fun hm => ((h.rdy p).1 hm).2.2 rfl
theorem some_ne {p q : Nat} (h : q ≠ p) : (none : Option Nat) = some q ↔ some p = some q := ⟨fun e => (by cases e), fun e => (by injection e with e; exact absurd e.symm h)⟩
theorem InvX.wake {p : Nat} (h : InvX P (some p) ex) (hp : p < P.ps.length) : InvX (wake P p) none ex :=
  h.setP hp (y := { P.proc p with st := 1 }) (L := P.ready ++ [p]) rfl (fun q hq => some_ne hq)
    (by rw [List.nodup_append]; exact ⟨h.rnd, by simp, fun a ha b hb e => by simp at hb; subst hb; subst e; exact h.nr ha⟩)
    ⟨fun _ => ⟨rfl, by simp⟩, fun _ => by simp⟩ (fun q hq => by simp [hq]) (fun r hr => ⟨fun hm => absurd hm (h.nq r hr), fun hm => by simp at hm⟩) (.inr (.inl rfl)) (fun e => absurd (show (1 : Int) = 2 from e) (by decide)) (fun e => absurd (show (1 : Int) = 2 from e) (by decide))
theorem InvX.dorm {p : Nat} (h : InvX P (some p) ex) (hp : p < P.ps.length) : InvX (P.setP p { P.proc p with st := 0 }) none ex :=
  h.setP hp (y := { P.proc p with st := 0 }) (L := P.ready) rfl (fun q hq => some_ne hq) h.rnd
    ⟨fun hm => absurd hm h.nr, fun hm => by simp at hm⟩ (fun q hq => Iff.rfl) (fun r hr => ⟨fun hm => absurd hm (h.nq r hr), fun hm => by simp at hm⟩) (.inl rfl) (fun e => absurd (show (0 : Int) = 2 from e) (by decide)) (fun e => absurd (show (0 : Int) = 2 from e) (by decide))
theorem InvX.release (h : InvX P none ex) {p : Nat} (hp : p < P.ps.length) (o : Out) : InvX (release P p o) none ex :=
  InvX.wake ((h.leave hp).last (by rw [leave_n]; exact hp) o) (by rw [ps_setP, leave_n]; exact hp)
/-- one resource anew, its row as it was -/
theorem InvX.setR (h : InvX P x ex) {r : Nat} (hr : r < P.rs.length) {y : Rsc} {ex' : Option Nat} (hk : y.kind = (P.rsc r).kind) (hmo : y.most = (P.rsc r).most) (hq : y.q = (P.rsc r).q) (hc : 0 ≤ y.count ∧ y.count ≤ y.most) (hi : y.kind = 2 → y.count = y.items.length)
    (hex : ∀ i, i ≠ r → ex' ≠ some i → ex ≠ some i) (he : ex' ≠ some r → y.q ≠ [] → y.count = 0 ∨ (y.kind = 2 ∧ y.count = y.most)) : InvX (P.setR r y) x ex' := by
  have hm := rs_setR (P := P) r y
  have hrr : (P.setR r y).rsc r = y := rsc_setR hr y
  have hne : ∀ i, i ≠ r → (P.setR r y).rsc i = P.rsc i := fun i e => rsc_setR_ne e y
  have hqq : ∀ i, ((P.setR r y).rsc i).q = (P.rsc i).q := fun i => by
    by_cases e : i = r
    · subst e; rw [hrr, hq]
    · rw [hne i e]
  refine ⟨h.n1, h.n8, by rw [hm]; exact h.r8, h.rnd, h.rdy, fun i hi => ?_, fun i hi => ?_, h.st, h.pr, fun p hp h2 => ?_, h.left, fun i hi => ?_, fun i hi => ?_, fun i hi => ?_, fun i hi' h2 => ?_, fun i hi h2 h3 => ?_⟩
  · rw [hm] at hi; rw [hqq]; exact h.qnd i hi
  · rw [hm] at hi; rw [hqq]; exact h.qin i hi
  · rw [hm]; exact h.res p hp h2
  · rw [hm] at hi
    by_cases e : i = r
    · subst e; rw [hrr, hk]; exact h.kind i hi
    · rw [hne i e]; exact h.kind i hi
  · rw [hm] at hi
    by_cases e : i = r
    · subst e; rw [hrr, hk, hmo]; exact h.most i hi
    · rw [hne i e]; exact h.most i hi
  · rw [hm] at hi
    by_cases e : i = r
    · subst e; rw [hrr]; exact hc
    · rw [hne i e]; exact h.cnt i hi
  · rw [hm] at hi'
    by_cases e : i = r
    · subst e; rw [hrr] at h2 ⊢; exact hi h2
    · rw [hne i e] at h2 ⊢; exact h.items i hi' h2
  · rw [hm] at hi
    by_cases e : i = r
    · subst e; rw [hrr] at h3 ⊢; exact he h2 h3
    · rw [hne i e] at h3 ⊢; exact h.emp i hi (hex i e h2) h3
end Nac.Procs
