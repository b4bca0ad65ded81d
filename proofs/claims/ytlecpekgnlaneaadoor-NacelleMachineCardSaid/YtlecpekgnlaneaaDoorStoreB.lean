/- Stores into bytes of the call's own. -/
import Derived.Test.YtlecpekgnlaneaaDoorBytes
import Derived.OneCell
namespace Go.Proofs.YtlecpekgnlaneaaDoor
open Go.RowKit Nac
section
variable {w w' : World} {base B : Nat} {A : Option Addr} {c : Nat} {l : List UInt8}
theorem OB.at (h : OB w base A c l) {k : Nat} (hk : k < l.length) :
    ∃ g, A = some ⟨g, 0, none⟩ ∧ base ≤ g ∧ g < w.heap.size ∧ w.cell? ⟨g, k, none⟩ = some (.int .u8 ((l[k]).toNat : Int)) ∧ w.frozen? ⟨g, k, none⟩ = false := by
  rcases h.2 with ⟨hv, hn⟩ | ⟨g, cap, cur, hv, hb, hg, hnc, hcm, hcs, ht⟩
  · omega
  · injection hv with h1 h2 h3
    subst h1
    refine ⟨g, rfl, hb, (Array.getElem?_eq_some_iff.1 hg).1, ?_, ?_⟩
    · rw [cell_of_row w g k cur _ (0, 0) hg]
      have e : (l.map bv)[k]? = some (bv l[k]) := by simp [hk]
      rw [← ht, List.getElem?_take_of_lt (by omega)] at e
      simpa [bv] using e
    · unfold World.frozen?
      simp [hg]
theorem OB.set {g : Nat} (h : OB w base (some ⟨g, 0, none⟩) c l) (k : Nat) (x : UInt8) {v : Value} (hv : v = bv x) : OB (w.setCell ⟨g, k, none⟩ v) base (some ⟨g, 0, none⟩) c (l.set k x) := by
  subst hv
  have := (World.ownsRow.stored h k (bv x)).1
  unfold OB
  rw [List.map_set, List.length_set]
  exact this
theorem OB.other (h : OB w base A c l) {a : Addr} (ha : A.map (·.block) ≠ some a.block) (v : Value) : OB (w.setCell a v) base A c l :=
  ownsRow_setCell_other h (by cases A <;> simp_all [Value.ownBlock]) v
theorem OB.cellAt {g : Nat} (h : OB w base (some ⟨g, 0, none⟩) c l) {k : Nat} (hk : k < l.length) : w.cell? ⟨g, k, none⟩ = some (.int .u8 ((l[k]).toNat : Int)) := by
  obtain ⟨g', he, _, _, h1, _⟩ := h.at hk
  injection he with he
  injection he with he
  subst he
  exact h1
theorem OB.freeAt {g : Nat} (h : OB w base (some ⟨g, 0, none⟩) c l) (k : Nat) : w.frozen? ⟨g, k, none⟩ = false := World.ownsRow.frozenAt h k
theorem OB.block {g : Nat} (h : OB w base (some ⟨g, 0, none⟩) c l) : base ≤ g ∧ g < w.heap.size := h.lt g rfl
/-- make([]byte, n): n noughts -/
theorem wpList_makeN_bytes (w : World) {ops : Array Oper} {rest : List Oper} {o : Oper} {a : Act} {Q : Exit → Act → World → Prop} (hg : o.guard = none) (l c : Operand) (hop : o.op = Op.makeSlice 22 l c)
    (base : Nat) (kl kc : IntKind) (C : Int) (n : Nat) (hl : a.eval l = .int kl C) (hc : a.eval c = .int kc C) (hC : C = (n : Int)) (b2 : n ≤ 281474976710656) (b4 : base ≤ w.heap.size)
    (hK : ∀ w' L, Hid (L = List.replicate n (0 : UInt8)) → OB w' base (some ⟨w.heap.size, 0, none⟩) n L → w.grownBy w' none → wpList Tryd.prog ops Q rest (a.put o.dst (.slice (some ⟨w.heap.size, 0, none⟩) n n)) w') :
    wpList Tryd.prog ops Q (o :: rest) a w := by
  obtain ⟨i, hi, hz, hs1, hb1⟩ := info_parts Tryd.infoByte
  refine wpList_make_full w hg l c 22 hop base 5 i (.int .u8 0) 1 Tryd.underlying22 hi hz hs1 kl kc C C n hl hc hC hC (by rw [hb1]; omega) (by unfold maxLen; omega) b4 fun w' h1 h2 => hK w' _ rfl ?_ h2
  unfold OB
  have e : (madeCells (Value.int .u8 0).cells (n * 1)).toList = (List.replicate n (0 : UInt8)).map bv := by
    rw [Nat.mul_one, List.map_replicate]
    show (madeCells #[.int .u8 0] n).toList = _
    rw [toList_madeCells_one]
    rfl
  rw [e] at h1
  rw [List.length_replicate]
  exact h1
end
end Go.Proofs.YtlecpekgnlaneaaDoor
