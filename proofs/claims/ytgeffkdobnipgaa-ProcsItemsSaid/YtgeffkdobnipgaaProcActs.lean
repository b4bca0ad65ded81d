/- What the calls of procs do, in plain Lean; what holds of every set. No program in sight. -/
import Derived.Test.YtgeffkdobnipgaaProcLeave
namespace Nac.Procs
def busy : Out := ⟨130, 0, false⟩
def waits : Out := ⟨0, 0, true⟩
def errO (e : Int) : Out := ⟨e, 0, false⟩
def startS (P : PSet) (p : Int) : Int × PSet := if isP P p = true then if (P.proc p.toNat).st = 0 then (0, wake P p.toNat) else (1, P) else (4, P)
def dorm (P : PSet) (p : Nat) : PSet := (leave P p).setP p { (leave P p).proc p with st := 0 }
def stopS (P : PSet) (p : Int) : Int × PSet := if isP P p = true then if (P.proc p.toNat).st = 0 then (6, P) else (0, dorm P p.toNat) else (4, P)
def badT (ticks : Int) : Bool := decide (ticks < 0) || decide (1048576 < ticks)
def sleepS (P : PSet) (ticks : Int) : Out × PSet :=
  if runI P < 0 then (errO 6, P) else if badT ticks = true then (errO 1, P) else if ticks = 0 then (ok, wake (leave P (runI P).toNat) (runI P).toNat) else (waits, park P (runI P).toNat (-1) ticks 0)
def refusedI (P : PSet) (p r ticks : Int) : Int := if p < 0 then 6 else if isR P r = false then 4 else if badT ticks = true then 1 else 0
/-- a buffer's item goes out, and who waits to give gives -/
def takeB (P : PSet) (r : Nat) : PSet :=
  let x := P.rsc r
  let P2 := match x.q with
    | [] => P.setR r { x with items := x.items.tail }
    | f :: _ => release (P.setR r { x with items := x.items.tail ++ [(P.proc f).item] }) f ok
  P2.setR r { P2.rsc r with count := (P2.rsc r).items.length }
def takeS (P : PSet) (r ticks : Int) : Out × PSet :=
  if refusedI P (runI P) r ticks ≠ 0 then (errO (refusedI P (runI P) r ticks), P) else
  if (P.rsc r.toNat).count = 0 then if ticks = 0 then (busy, P) else (waits, park P (runI P).toNat r ticks 0) else
  if (P.rsc r.toNat).kind = 0 then (ok, P.setR r.toNat { P.rsc r.toNat with count := (P.rsc r.toNat).count - 1 }) else
  if (P.rsc r.toNat).kind = 2 then (⟨0, (P.rsc r.toNat).items.headD 0, false⟩, takeB P r.toNat) else (ok, P)
/-- one more -/
def more (P : PSet) (r : Nat) : Out × PSet :=
  match (P.rsc r).q with
  | f :: _ => (ok, release P f ok)
  | [] => if (P.rsc r).count = (P.rsc r).most then (errO 5, P) else (ok, P.setR r { P.rsc r with count := (P.rsc r).count + 1 })
def wakeAll (P : PSet) (l : List Nat) : PSet := l.foldl (fun s f => release s f ok) P
def upR (P : PSet) (r : Nat) : PSet := P.setR r { P.rsc r with count := 1 }
def giveB (P : PSet) (r : Nat) (v ticks : Int) : Out × PSet :=
  if (P.rsc r).count = (P.rsc r).most then if ticks = 0 then (busy, P) else (waits, park P (runI P).toNat r ticks v) else
  match (P.rsc r).q with
  | f :: _ => (ok, release P f ⟨0, v, false⟩)
  | [] => more (P.setR r { P.rsc r with items := (P.rsc r).items ++ [v] }) r
def giveS (P : PSet) (r v ticks : Int) : Out × PSet :=
  if refusedI P (runI P) r ticks ≠ 0 then (errO (refusedI P (runI P) r ticks), P) else
  if (P.rsc r.toNat).kind = 1 then (ok, wakeAll (upR P r.toNat) (P.rsc r.toNat).q) else
  if (P.rsc r.toNat).kind = 2 then giveB P r.toNat v ticks else
  if (P.rsc r.toNat).kind = 0 then more P r.toNat else (ok, P)
def lowerS (P : PSet) (r : Int) : Int × PSet := if isR P r = true then if (P.rsc r.toNat).kind = 1 then (0, P.setR r.toNat { P.rsc r.toNat with count := 0 }) else (1, P) else (4, P)
def tick1 (P : PSet) (p : Nat) : PSet :=
  if (P.proc p).st = 2 then
    if 0 < (P.proc p).left - 1 then P.setP p { P.proc p with left := (P.proc p).left - 1 }
    else release (P.setP p { P.proc p with left := (P.proc p).left - 1 }) p (if (P.proc p).res = -1 then ok else errO 131)
  else P
def tickTo (P : PSet) (k : Nat) : PSet := (List.range k).foldl tick1 P
def tickS (P : PSet) : PSet := tickTo P P.ps.length
/-- what holds of a set, of which process x is on its way; of resource ex anybody may wait -/
structure InvX (P : PSet) (x ex : Option Nat) : Prop where
  n1 : 0 < P.ps.length
  n8 : P.ps.length ≤ 8
  r8 : P.rs.length ≤ 8
  rnd : P.ready.Nodup
  rdy : ∀ p, p ∈ P.ready ↔ p < P.ps.length ∧ (P.proc p).st = 1 ∧ x ≠ some p
  qnd : ∀ r, r < P.rs.length → (P.rsc r).q.Nodup
  qin : ∀ r, r < P.rs.length → ∀ p, p ∈ (P.rsc r).q ↔ p < P.ps.length ∧ (P.proc p).st = 2 ∧ (P.proc p).res = r ∧ x ≠ some p
  st : ∀ p, p < P.ps.length → (P.proc p).st = 0 ∨ (P.proc p).st = 1 ∨ (P.proc p).st = 2
  pr : ∀ p, p < P.ps.length → 0 ≤ (P.proc p).pr ∧ (P.proc p).pr ≤ 63
  res : ∀ p, p < P.ps.length → (P.proc p).st = 2 → (P.proc p).res = -1 ∨ (0 ≤ (P.proc p).res ∧ (P.proc p).res < P.rs.length)
  left : ∀ p, p < P.ps.length → (P.proc p).st = 2 → x ≠ some p → 1 ≤ (P.proc p).left ∧ (P.proc p).left ≤ 1048576
  kind : ∀ r, r < P.rs.length → (P.rsc r).kind = 0 ∨ (P.rsc r).kind = 1 ∨ (P.rsc r).kind = 2
  most : ∀ r, r < P.rs.length → 1 ≤ (P.rsc r).most ∧ (P.rsc r).most ≤ 16 ∧ ((P.rsc r).kind = 1 → (P.rsc r).most = 1)
  cnt : ∀ r, r < P.rs.length → 0 ≤ (P.rsc r).count ∧ (P.rsc r).count ≤ (P.rsc r).most
  items : ∀ r, r < P.rs.length → (P.rsc r).kind = 2 → (P.rsc r).count = (P.rsc r).items.length
  emp : ∀ r, r < P.rs.length → ex ≠ some r → (P.rsc r).q ≠ [] → (P.rsc r).count = 0 ∨ ((P.rsc r).kind = 2 ∧ (P.rsc r).count = (P.rsc r).most)
def Inv (P : PSet) : Prop := InvX P none none
theorem nodup_len : ∀ (n : Nat) (l : List Nat), l.Nodup → (∀ x ∈ l, x < n) → l.length ≤ n
  | 0, l, _, h => by
    cases l with
    | nil => exact Nat.le_refl _
    | cons a l => exact absurd (h a (by simp)) (Nat.not_lt_zero _)
  | n + 1, l, hn, h => by
    have h2 := nodup_len n (l.erase n) (hn.erase n) (fun x hx => by
      rw [hn.mem_erase_iff] at hx
      have := h x hx.2
      omega)
    have h3 := List.length_erase (a := n) (l := l)
    split at h3 <;> omega
variable {P : PSet} {x ex : Option Nat}
theorem rsc_out {r : Nat} (h : P.rs.length ≤ r) : P.rsc r = default := by simp [PSet.rsc, List.getD, List.getElem?_eq_none h]
theorem proc_out {p : Nat} (h : P.ps.length ≤ p) : P.proc p = default := by simp [PSet.proc, List.getD, List.getElem?_eq_none h]
theorem InvX.rlen (h : InvX P x ex) : P.ready.length ≤ 8 := Nat.le_trans (nodup_len _ _ h.rnd fun p hp => ((h.rdy p).1 hp).1) h.n8
theorem InvX.qlen (h : InvX P x ex) (r : Nat) : (P.rsc r).q.length ≤ 8 := by
  rcases Nat.lt_or_ge r P.rs.length with hr | hr
  · exact Nat.le_trans (nodup_len _ _ (h.qnd r hr) fun p hp => ((h.qin r hr p).1 hp).1) h.n8
  · rw [rsc_out hr]; exact Nat.zero_le _
theorem InvX.wf (h : InvX P x ex) : Wf P 8 := ⟨by have := h.n8; omega, by have := h.r8; omega, h.rlen, h.qlen, fun p h1 h2 => by
  rcases Nat.lt_or_ge p P.ps.length with hp | hp
  · rcases h.res p hp h1 with h3 | h3
    · exact absurd h3 h2
    · exact h3
  · rw [proc_out hp] at h1; exact absurd h1 (by decide)⟩
theorem Wf.mono {k k' : Nat} (h : Wf P k) (hk : k ≤ k') : Wf P k' := ⟨h.n, h.m, Nat.le_trans h.rd hk, fun r => Nat.le_trans (h.q r) hk, h.res⟩
theorem Wf.setR {k r : Nat} {y : Rsc} (h : Wf P k) (hq : y.q.length ≤ k) : Wf (P.setR r y) k := ⟨h.n, by rw [rs_setR]; exact h.m, h.rd, fun i => by
  by_cases e : i = r
  · subst e
    rcases Nat.lt_or_ge i P.rs.length with hi | hi
    · rw [rsc_setR hi]; exact hq
    · rw [rsc_out (by rw [rs_setR]; exact hi)]; exact Nat.zero_le _
  · rw [rsc_setR_ne e]; exact h.q i, fun p h1 h2 => by rw [rs_setR]; exact h.res p h1 h2⟩
theorem release_m (p : Nat) (o : Out) : (release P p o).rs.length = P.rs.length := by unfold release wake PSet.setP; exact leave_m p
theorem release_n (p : Nat) (o : Out) : (release P p o).ps.length = P.ps.length := by
  show ((leave P p).setP p _ |>.setP p _).ps.length = _
  rw [ps_setP, ps_setP, leave_n]
theorem takeB_nil {k : Nat} (hk : k < P.rs.length) {x : Int} {L : List Int} (hq : (P.rsc k).q = []) (hit : (P.rsc k).items = x :: L) : takeB P k = (P.setR k { P.rsc k with items := L }).setR k { (P.setR k { P.rsc k with items := L }).rsc k with count := L.length } := by
  simp only [takeB]
  split
  · have e : (L.length : Int) = (((P.setR k { P.rsc k with items := L }).rsc k).items.length : Nat) := by rw [rsc_setR hk]
    rw [hit, e]; rfl
  · rename_i h; rw [hq] at h; cases h
theorem takeB_cons {k f : Nat} {rest : List Nat} {x : Int} {L : List Int} (hq : (P.rsc k).q = f :: rest) (hit : (P.rsc k).items = x :: L) : takeB P k = (release (P.setR k { P.rsc k with items := L ++ [(P.proc f).item] }) f ok).setR k { (release (P.setR k { P.rsc k with items := L ++ [(P.proc f).item] }) f ok).rsc k with count := (((release (P.setR k { P.rsc k with items := L ++ [(P.proc f).item] }) f ok).rsc k).items.length : Nat) } := by
  simp only [takeB]
  split
  · rename_i h; rw [hq] at h; cases h
  · rename_i f' r' h
    rw [hq] at h
    injection h with h1 h2
    subst h1
    rw [hit]; rfl
theorem InvX.rin (h : InvX P x ex) : ∀ q ∈ P.ready, q < P.ps.length := fun q hq => ((h.rdy q).1 hq).1
/-- who runs is one of those that are ready -/
theorem run_lt (h : InvX P x ex) : runI P = -1 ∨ ∃ p : Nat, runI P = p ∧ p ∈ P.ready ∧ p < P.ps.length := by
  unfold runI
  cases hr : running P with
  | none => exact .inl rfl
  | some p =>
    have := List.mem_of_find?_eq_some hr
    exact .inr ⟨p, rfl, this, h.rin p this⟩
end Nac.Procs
