/- The document's channel as a value, by its reading: New, Receive, Send. -/
import Derived.Test.YtdjphdkoljfndaaPortNew
import Derived.Test.YtdjphdkoljfndaaConv
import Derived.Test.YtdjphdkoljfndaaStrs
import Derived.RegionTactic
import Derived.ChangeAlike
namespace Go.Proofs.Ytdjphdkoljfndaa
open Go.RowKit Nac
def mc2 (m : Msg) : List Value := [.string (strB m.b), .int .u64 m.at_]
/-- the slice at A reads as the messages -/
def RQ (w : World) (B : Nat) (A : Option Addr) (q : List Msg) : Prop :=
  q ≠ [] → ∃ b o, A = some ⟨b, o, none⟩ ∧ b < B ∧ ∀ j (h : j < q.length), w.cell? ⟨b, o + j * 2, none⟩ = some (.string (strB q[j].b)) ∧ w.cell? ⟨b, o + j * 2 + 1, none⟩ = some (.int .u64 q[j].at_)
theorem RQ.nil (w : World) (B : Nat) (A : Option Addr) : RQ w B A [] := fun h => absurd rfl h
theorem RQ.get {w : World} {B : Nat} {A : Option Addr} {q : List Msg} (h : RQ w B A q) {j : Nat} (hj : j < q.length) :
    ∃ b o, A = some ⟨b, o, none⟩ ∧ b < B ∧ w.cell? ⟨b, o + j * 2, none⟩ = some (.string (strB q[j].b)) ∧ w.cell? ⟨b, o + j * 2 + 1, none⟩ = some (.int .u64 q[j].at_) := by
  obtain ⟨b, o, hA, hb, hc⟩ := h (by intro e; subst e; simp at hj)
  exact ⟨b, o, hA, hb, hc j hj⟩
theorem RQ.below {w w' : World} {B : Nat} {A : Option Addr} {q : List Msg} (h : RQ w B A q) (hb : Below B w w') : RQ w' B A q := fun hn => by
  obtain ⟨b, o, hA, hlt, hc⟩ := h hn
  exact ⟨b, o, hA, hlt, fun j hj => ⟨(hb.cell (p := ⟨b, _, none⟩) hlt).trans (hc j hj).1, (hb.cell (p := ⟨b, _, none⟩) hlt).trans (hc j hj).2⟩⟩
theorem RQ.mono {w : World} {B B' : Nat} {A : Option Addr} {q : List Msg} (h : RQ w B A q) (hB : B ≤ B') : RQ w B' A q := fun hn => by
  obtain ⟨b, o, hA, hb, hc⟩ := h hn
  exact ⟨b, o, hA, by omega, hc⟩
theorem RQ.tail {w : World} {B b o : Nat} {m : Msg} {r : List Msg} (h : RQ w B (some ⟨b, o, none⟩) (m :: r)) : RQ w B (some ⟨b, o + 2, none⟩) r := fun hn => by
  obtain ⟨b', o', hA, hb, hc⟩ := h (by simp)
  injection hA with hA
  injection hA with h1 h2
  subst h1
  subst h2
  refine ⟨b, o + 2, rfl, hb, fun j hj => ?_⟩
  have := hc (j + 1) (by simp; omega)
  simp only [List.getElem_cons_succ] at this
  rw [show o + 2 + j * 2 = o + (j + 1) * 2 by omega]
  exact this
/-- the document's channel -/
def RCh (w : World) (C : Ch) (v : Value) : Prop := ∃ A c, v = .agg #[.int .i64 C.kind, .int .i64 C.most, .int .i64 C.size, .slice A C.q.length c, .int .u64 C.lost] ∧ RQ w w.heap.size A C.q ∧ C.q.length ≤ c
theorem RCh.below {w w' : World} {C : Ch} {v : Value} (h : RCh w C v) (hb : Below w.heap.size w w') : RCh w' C v := by
  obtain ⟨A, c, hv, hr, hc⟩ := h
  exact ⟨A, c, hv, (hr.below hb).mono hb.size, hc⟩
theorem RCh.new (w : World) (k m s : Nat) : RCh w ⟨k, m, s, 0, []⟩ (.agg #[.int .i64 k, .int .i64 m, .int .i64 s, .slice none 0 0, .int .u64 0]) := ⟨none, 0, rfl, RQ.nil _ _ _, Nat.le_refl _⟩
/-- its messages lie below block B -/
def RChB (w : World) (B : Nat) (C : Ch) (v : Value) : Prop := ∃ A c, v = .agg #[.int .i64 C.kind, .int .i64 C.most, .int .i64 C.size, .slice A C.q.length c, .int .u64 C.lost] ∧ RQ w B A C.q ∧ C.q.length ≤ c
theorem RChB.up {w : World} {B : Nat} {C : Ch} {v : Value} (h : RChB w B C v) (hB : B ≤ w.heap.size) : RCh w C v := by
  obtain ⟨A, c, hv, hr, hc⟩ := h
  exact ⟨A, c, hv, hr.mono hB, hc⟩
theorem RChB.below {w w' : World} {B : Nat} {C : Ch} {v : Value} (h : RChB w B C v) (hb : Below B w w') : RChB w' B C v := by
  obtain ⟨A, c, hv, hr, hc⟩ := h
  exact ⟨A, c, hv, hr.below hb, hc⟩
def RetNewR (w : World) (k m s : Int) (ok : Bool) (e : Ending) (w' : World) : Prop := e = .returned (.tuple #[.agg #[.int .i64 k, .int .i64 m, .int .i64 s, .slice none 0 0, .int .u64 0], .bool ok]) ∧ Below w.heap.size w w'
set_option maxHeartbeats 2000000 in
theorem refnew_ok (w : World) (k m s : Int) (h : NewOk k m s) :
    Calls Try.prog 21 #[.int .i64 k, .int .i64 m, .int .i64 s] w (RetNewR w k m s true) := by
  have HB : Hid (Below w.heap.size w (w.alloc (.cells #[.int .i64 k, .int .i64 m, .int .i64 s, .slice none 0 0, .int .u64 0] 48))) := Lib.hid ((Below.refl _ _).alloc (Nat.le_refl _) _)
  obtain ⟨h1, h2, ⟨rfl, rfl⟩ | ⟨rfl | rfl, h3, h4⟩⟩ := h
  all_goals
    go_enter Try.func21, Try.ntmps21
    go_wp2
    exact bodyPost_ret (v := .tuple #[.agg #[_, _, _, .slice none 0 0, .int .u64 0], .bool true]) (by simp [results, Try.results21, go_sem]) rfl ⟨rfl, HB.out⟩
set_option maxHeartbeats 2000000 in
theorem refnew_bad (w : World) (k m s : Int) (h : ¬ NewOk k m s) :
    Calls Try.prog 21 #[.int .i64 k, .int .i64 m, .int .i64 s] w (RetNewR w 0 0 0 false) := by
  have HB : Hid (Below w.heap.size w (w.alloc (.cells #[.int .i64 0, .int .i64 0, .int .i64 0, .slice none 0 0, .int .u64 0] 48))) := Lib.hid ((Below.refl _ _).alloc (Nat.le_refl _) _)
  have h2 : s < 0 ∨ (0 ≤ s ∧ 64 < s) ∨ (0 ≤ s ∧ s ≤ 64 ∧ k = 0 ∧ (m == 1) = false) ∨ (0 ≤ s ∧ s ≤ 64 ∧ (k < 0 ∨ 2 < k)) ∨ (0 ≤ s ∧ s ≤ 64 ∧ (k = 1 ∨ k = 2) ∧ (m < 1 ∨ (1 ≤ m ∧ decide (m ≤ 16) = false))) := by
    rw [decide_eq_false_iff_not, beq_eq_false_iff_ne]; unfold NewOk at h; omega
  clear h
  rcases h2 with h | ⟨h, h'⟩ | ⟨h, h', rfl, h2⟩ | ⟨h, h', h2 | h2⟩ | ⟨h, h', rfl | rfl, h2 | ⟨h2, h3⟩⟩
  all_goals
    go_enter Try.func21, Try.ntmps21
    go_wp2
    exact bodyPost_ret (v := .tuple #[.agg #[_, _, _, .slice none 0 0, .int .u64 0], .bool false]) (by simp [results, Try.results21, go_sem]) rfl ⟨rfl, HB.out⟩
end Go.Proofs.Ytdjphdkoljfndaa
