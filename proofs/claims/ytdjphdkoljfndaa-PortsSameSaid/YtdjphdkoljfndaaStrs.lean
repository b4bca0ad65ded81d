/- Rows of strings that a call makes itself. -/
import Derived.Test.YtdjphdkoljfndaaBytes
import Derived.Test.YtdjphdkoljfndaaConv
import Derived.Test.YtdjphdkoljfndaaBlk
namespace Go.Proofs.Ytdjphdkoljfndaa
open Go.RowKit Nac
/-- bytes, as a string's value -/
def sv (l : List UInt8) : Value := .string (strB l)
theorem Try.infoString : (Try.prog.info? 9).map (fun i => (i.zero, i.size, i.bytes)) = some (some (.string ⟨#[]⟩), 1, 16) := by kernel_rfl
/-- the slice at A, of capacity c, is the call's own (from block 'base' on) and holds the texts L -/
def OS (w : World) (base : Nat) (A : Option Addr) (c : Nat) (L : List (List UInt8)) : Prop := w.ownsRow base 9 1 (.slice A L.length c) L.length (L.map sv)
section
variable {w w' : World} {base B : Nat} {A : Option Addr} {c : Nat} {L : List (List UInt8)}
theorem OS.nil (w : World) (base : Nat) : OS w base none 0 [] := World.ownsRow_nil w base _ _
theorem OS.kept (h : OS w base A c L) {row : Option Nat} (hg : w.grownBy w' row) (hne : A = none ∨ A.map (·.block) ≠ row) : OS w' base A c L :=
  World.ownsRow.kept h hg (by cases A <;> simp_all [Value.ownBlock])
theorem OS.alloc (h : OS w base A c L) (o : Obj) : OS (w.alloc o) base A c L := World.ownsRow.alloc h o
theorem OS.drew (h : OS w base A c L) : OS w.drew base A c L := h
theorem OS.drewN (h : OS w base A c L) (n : Nat) : OS (w.drewN n) base A c L := h
theorem OS.lt (h : OS w base A c L) : ∀ g, A.map (·.block) = some g → base ≤ g ∧ g < w.heap.size := fun g hg => World.ownsRow.lt h g (by cases A <;> simp_all [Value.ownBlock])
theorem OS.below (h : OS w base A c L) (hb : Below B w w') (hB : w.heap.size ≤ B) : OS w' base A c L := by
  refine World.ownsRow.kept h (row := none) ⟨hb.os, hb.tape, hb.output, hb.size, fun k hk _ => hb.block k (by omega)⟩ ?_
  cases A <;> simp [Value.ownBlock]
theorem OS.get (h : OS w base A c L) {j : Nat} (hj : j < L.length) : ∃ g, A = some ⟨g, 0, none⟩ ∧ base ≤ g ∧ g < w.heap.size ∧ w.cell? ⟨g, j, none⟩ = some (.string (strB L[j])) := by
  rcases h.2 with ⟨hv, hn⟩ | ⟨g, cap, cur, hv, hb, hg, hnc, hcm, hcs, ht⟩
  · omega
  · injection hv with h1 h2 h3
    subst h1
    refine ⟨g, rfl, hb, (Array.getElem?_eq_some_iff.1 hg).1, ?_⟩
    rw [cell_of_row w g j cur _ (0, 0) hg]
    have e : (L.map sv)[j]? = some (sv L[j]) := by simp [hj]
    rw [← ht, List.getElem?_take_of_lt (by omega)] at e
    simpa [sv] using e
/-- where a row lies behind an append: where it lay, or in a new block -/
def AtOr (A A' : Option Addr) (n : Nat) : Prop := A'.map (·.block) = A.map (·.block) ∨ A'.map (·.block) = some n
theorem OS.apart {w : World} {base : Nat} {A A' A2 : Option Addr} {c2 : Nat} {L2 : List (List UInt8)} (h2 : OS w base A2 c2 L2) (hne : A2 = none ∨ A2.map (·.block) ≠ A.map (·.block)) (h4 : AtOr A A' w.heap.size) :
    A2 = none ∨ A2.map (·.block) ≠ A'.map (·.block) := by
  rcases hne with h | h
  · exact .inl h
  · cases hA2 : A2.map (·.block) with
    | none => exact .inl (by cases A2 with | none => rfl | some a => cases hA2)
    | some g =>
      refine .inr fun e => ?_
      rcases h4 with h4 | h4
      · exact h (by rw [hA2, ← h4]; exact e)
      · have := (h2.lt g hA2).2
        rw [h4] at e
        injection e with e
        omega
end
/-- append of one text onto texts of the call's own -/
theorem wpList_app_str (w : World) {ops : Array Oper} {rest : List Oper} {o : Oper} {a : Act} {Q : Exit → Act → World → Prop} (hgd : o.guard = none) (s x : Operand)
    (ho : o.op = .call { callee := .builtin .append, args := #[s, x], argTypes := #[41, 41] })
    (base : Nat) (A : Option Addr) (c : Nat) (L : List (List UInt8)) (n : Nat) (hs : a.eval s = .slice A n c) (hn : n = L.length) (hown : OS w base A c L)
    (g c2 : Nat) (l : List UInt8) (hx : a.eval x = .slice (some ⟨g, 0, none⟩) 1 c2) (hsrc : w.cell? ⟨g, 0, none⟩ = some (.string (strB l)))
    (hlen : L.length ≤ 1000000) (hbase : base ≤ w.heap.size)
    (h : ∀ A' c' L' w', Hid (L' = L ++ [l]) → OS w' base A' c' L' → w.grownBy w' (A.map (·.block)) → AtOr A A' w.heap.size →
      wpList Try.prog ops Q rest (a.put o.dst (.slice A' L'.length c')) w') : wpList Try.prog ops Q (o :: rest) a w := by
  subst hn
  refine wpList_app w hgd s x 41 ho base 9 (.string ⟨#[]⟩) 1 16 Try.underlying41 Try.infoString rfl (by decide) A L.length c (L.map sv) hs hown (some ⟨g, 0, none⟩) 1 c2 [sv l] hx (by simp)
    (fun _ => ⟨_, rfl, fun j u hu => ?_⟩) (fun u hu => by simp at hu; subst hu; rfl) (by omega) (by unfold maxLen; omega) hbase ?_
  · have hj : j = 0 := by have := (List.getElem?_eq_some_iff.1 hu).1; simpa using this
    subst hj
    simp at hu
    subst hu
    simpa [Addr.add, sv] using hsrc
  · intro A' c' w' h2 h3 h4
    have := h A' c' (L ++ [l]) w' rfl (by unfold OS; rw [List.map_append, List.length_append]; exact h2) h3 h4
    rw [List.length_append] at this
    exact this
end Go.Proofs.Ytdjphdkoljfndaa
