/- Rows of numbers that a call makes itself. -/
import Derived.Test.YtgeffkdobnipgaaProg
import Derived.WalkKit
import Derived.WalkLawsBesides
import Derived.Lib.Hide
import Derived.Maps.AppendAt
import Derived.Deep.OwnRows
namespace Go.Proofs.Ytgeffkdobnipgaa
open Go.RowKit
/-- the slice at A reads as the numbers l, below block B -/
def RI (w : World) (B : Nat) (A : Option Addr) (l : List Int) : Prop :=
  l ≠ [] → ∃ b o, A = some ⟨b, o, none⟩ ∧ b < B ∧ ∀ j (h : j < l.length), w.cell? ⟨b, o + j, none⟩ = some (.int .i64 l[j])
theorem RI.get {w : World} {B : Nat} {A : Option Addr} {l : List Int} (h : RI w B A l) {k : Nat} (hk : k < l.length) :
    ∃ b o, A = some ⟨b, o, none⟩ ∧ b < B ∧ w.cell? ⟨b, o + k, none⟩ = some (.int .i64 l[k]) := by
  obtain ⟨b, o, hA, hb, hc⟩ := h (by intro e; subst e; simp at hk)
  exact ⟨b, o, hA, hb, hc k hk⟩
theorem RI.below {w w' : World} {B : Nat} {A : Option Addr} {l : List Int} (h : RI w B A l) (hb : Below B w w') : RI w' B A l := fun hn => by
  obtain ⟨b, o, hA, hlt, hc⟩ := h hn
  exact ⟨b, o, hA, hlt, fun j hj => (hb.cell hlt).trans (hc j hj)⟩
theorem RI.mono {w : World} {B B' : Nat} {A : Option Addr} {l : List Int} (h : RI w B A l) (hB : B ≤ B') : RI w B' A l := fun hn => by
  obtain ⟨b, o, hA, hb, hc⟩ := h hn
  exact ⟨b, o, hA, by omega, hc⟩
theorem Try.infoInt : (Try.prog.info? 3).map (fun i => (i.zero, i.size, i.bytes)) = some (some (.int .i64 0), 1, 8) := by kernel_rfl
/-- the slice at A, of capacity c, is the call's own (from block 'base' on) and holds the numbers l -/
def OI (w : World) (base : Nat) (A : Option Addr) (c : Nat) (l : List Int) : Prop := w.ownsRow base 3 1 (.slice A l.length c) l.length (l.map (Value.int .i64))
section
variable {w w' : World} {base B : Nat} {A : Option Addr} {c : Nat} {l : List Int}
theorem OI.nil (w : World) (base : Nat) : OI w base none 0 [] := World.ownsRow_nil w base _ _
theorem OI.alloc (h : OI w base A c l) (o : Obj) : OI (w.alloc o) base A c l := World.ownsRow.alloc h o
theorem OI.drewN (h : OI w base A c l) (n : Nat) : OI (w.drewN n) base A c l := h
theorem OI.lt (h : OI w base A c l) : ∀ g, A.map (·.block) = some g → base ≤ g ∧ g < w.heap.size := fun g hg => World.ownsRow.lt h g (by cases A <;> simp_all [Value.ownBlock])
theorem OI.below (h : OI w base A c l) (hb : Below B w w') (hB : w.heap.size ≤ B) : OI w' base A c l := by
  refine World.ownsRow.kept h (row := none) ⟨hb.os, hb.tape, hb.output, hb.size, fun k hk _ => hb.block k (by omega)⟩ ?_
  cases A <;> simp [Value.ownBlock]
theorem OI.ri (h : OI w base A c l) : RI w w.heap.size A l := fun hne => by
  rcases h.2 with ⟨hv, hn⟩ | ⟨g, cap, cur, hv, hb, hg, hnc, hcm, hcs, ht⟩
  · exact absurd (List.eq_nil_of_length_eq_zero hn) hne
  · injection hv with h1 h2 h3
    subst h1
    refine ⟨g, 0, rfl, (Array.getElem?_eq_some_iff.1 hg).1, fun j hj => ?_⟩
    rw [cell_of_row w g (0 + j) cur _ (0, 0) hg, Nat.zero_add]
    have e : (l.map (Value.int .i64))[j]? = some (.int .i64 l[j]) := by simp [hj]
    rw [← ht, List.getElem?_take_of_lt (by omega)] at e
    simpa using e
end
theorem own_formI {w : World} {base : Nat} {e : TypeId} {size : Nat} {v : Value} {n : Nat} {xs : List Value} (h : w.ownsRow base e size v n xs) : ∃ A c, v = .slice A n c := by
  rcases h.2 with ⟨rfl, rfl⟩ | ⟨g, cap, cur, rfl, _⟩
  · exact ⟨_, _, rfl⟩
  · exact ⟨_, _, rfl⟩
/-- append of one number onto numbers of the call's own -/
theorem wpList_app_int (w : World) {ops : Array Oper} {rest : List Oper} {o : Oper} {a : Act} {Q : Exit → Act → World → Prop} (hgd : o.guard = none) (s x : Operand)
    (ho : o.op = .call { callee := .builtin .append, args := #[s, x], argTypes := #[28, 28] })
    (base : Nat) (A : Option Addr) (c : Nat) (L : List Int) (n : Nat) (hs : a.eval s = .slice A n c) (hn : n = L.length) (hown : OI w base A c L)
    (g c2 : Nat) (z : Int) (hx : a.eval x = .slice (some ⟨g, 0, none⟩) 1 c2) (hsrc : w.cell? ⟨g, 0, none⟩ = some (.int .i64 z))
    (hlen : L.length ≤ 1000000) (hbase : base ≤ w.heap.size)
    (h : ∀ A' c' L' w', Hid (L' = L ++ [z]) → OI w' base A' c' L' → w.grownBy w' (A.map (·.block)) → wpList Try.prog ops Q rest (a.put o.dst (.slice A' L'.length c')) w') : wpList Try.prog ops Q (o :: rest) a w := by
  subst hn
  obtain ⟨i, hi, hz, hs1, hb1⟩ := info_parts Try.infoInt
  have eb : Value.ownBlock (.slice A L.length c) = A.map (·.block) := by cases A <;> rfl
  obtain ⟨v', w', hr, h2, h3, _, _⟩ := run_append_own_at (P := Try.prog) w base 28 o.type 3 i (.int .i64 0) 1 8 Try.underlying28 hi hz hs1 hb1 rfl (by decide) _ L.length (L.map (Value.int .i64)) hown ⟨g, 0, none⟩ 1 c2 [.int .i64 z] rfl
    (fun j u hu => by
      have hj : j = 0 := by have := (List.getElem?_eq_some_iff.1 hu).1; simpa using this
      subst hj
      simp at hu
      subst hu
      simpa [Addr.add] using hsrc) (fun u hu => by simp at hu; subst hu; rfl) (by unfold maxLen; omega) (by omega) hbase
  obtain ⟨A', c', rfl⟩ := own_formI h2
  rw [eb] at h3
  have hK := h A' c' (L ++ [z]) w' rfl (by unfold OI; rw [List.map_append, List.length_append]; exact h2) h3
  rw [List.length_append] at hK
  refine wpList_plain hgd fun K hKK => ?_
  unfold Oper.wp execOp
  simp only [ho, resolve, invoke, builtin, Sem.run_bind, Sem.run_pure, Result.andThen_ok, List.map_toArray, List.map_cons, List.map_nil, hs, hx, hr]
  exact hKK _ _ hK
end Go.Proofs.Ytgeffkdobnipgaa
