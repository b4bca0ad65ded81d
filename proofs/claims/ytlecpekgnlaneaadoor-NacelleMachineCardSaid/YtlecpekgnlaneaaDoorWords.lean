/- Rows of 64-bit words that a call makes itself: reading, storing, append, make; slices.Clone. -/
import Derived.Test.YtlecpekgnlaneaaDoorBytes
import Derived.OneCell
import Derived.WalkSpells
namespace Go.Proofs.YtlecpekgnlaneaaDoor
open Go.RowKit Nac
/-- the slice at A reads as the words l, below block B -/
def RWd (w : World) (B : Nat) (A : Option Addr) (l : List Int) : Prop :=
  l ≠ [] → ∃ b o, A = some ⟨b, o, none⟩ ∧ b < B ∧ ∀ j (h : j < l.length), w.cell? ⟨b, o + j, none⟩ = some (.int .i64 l[j])
theorem RWd.get {w : World} {B : Nat} {A : Option Addr} {l : List Int} (h : RWd w B A l) {k : Nat} (hk : k < l.length) :
    ∃ b o, A = some ⟨b, o, none⟩ ∧ b < B ∧ w.cell? ⟨b, o + k, none⟩ = some (.int .i64 l[k]) := by
  obtain ⟨b, o, hA, hb, hc⟩ := h (by intro e; subst e; simp at hk)
  exact ⟨b, o, hA, hb, hc k hk⟩
theorem RWd.below {w w' : World} {B : Nat} {A : Option Addr} {l : List Int} (h : RWd w B A l) (hb : Below B w w') : RWd w' B A l := fun hn => by
  obtain ⟨b, o, hA, hlt, hc⟩ := h hn
  exact ⟨b, o, hA, hlt, fun j hj => (hb.cell (p := ⟨b, o + j, none⟩) hlt).trans (hc j hj)⟩
theorem RWd.mono {w : World} {B B' : Nat} {A : Option Addr} {l : List Int} (h : RWd w B A l) (hB : B ≤ B') : RWd w B' A l := fun hn => by
  obtain ⟨b, o, hA, hb, hc⟩ := h hn
  exact ⟨b, o, hA, by omega, hc⟩
theorem RWd.take {w : World} {B : Nat} {A : Option Addr} {l : List Int} (h : RWd w B A l) (k : Nat) : RWd w B A (l.take k) := fun hn => by
  obtain ⟨b, o, hA, hb, hc⟩ := h (by rintro rfl; simp at hn)
  refine ⟨b, o, hA, hb, fun j hj => ?_⟩
  have := hc j (by simp at hj; omega)
  rw [List.getElem_take, ← this]
theorem Tryd.infoWord : (Tryd.prog.info? 2).map (fun i => (i.zero, i.size, i.bytes)) = some (some (.int .i64 0), 1, 8) := by kernel_rfl
/-- the slice at A, of capacity c, is the call's own (from block 'base' on) and holds the words l -/
def OW (w : World) (base : Nat) (A : Option Addr) (c : Nat) (l : List Int) : Prop := w.ownsRow base 2 1 (.slice A l.length c) l.length (l.map (Value.int .i64))
section
variable {w w' : World} {base B : Nat} {A : Option Addr} {c : Nat} {l : List Int}
theorem OW.nil (w : World) (base : Nat) : OW w base none 0 [] := World.ownsRow_nil w base _ _
theorem OW.kept (h : OW w base A c l) {row : Option Nat} (hg : w.grownBy w' row) (hne : A = none ∨ A.map (·.block) ≠ row) : OW w' base A c l :=
  World.ownsRow.kept h hg (by cases A <;> simp_all [Value.ownBlock])
theorem OW.alloc (h : OW w base A c l) (o : Obj) : OW (w.alloc o) base A c l := World.ownsRow.alloc h o
theorem OW.drew (h : OW w base A c l) : OW w.drew base A c l := h
theorem OW.lt (h : OW w base A c l) : ∀ g, A.map (·.block) = some g → base ≤ g ∧ g < w.heap.size := fun g hg => World.ownsRow.lt h g (by cases A <;> simp_all [Value.ownBlock])
theorem OW.below (h : OW w base A c l) (hb : Below B w w') (hB : w.heap.size ≤ B) : OW w' base A c l := by
  refine World.ownsRow.kept h (row := none) ⟨hb.os, hb.tape, hb.output, hb.size, fun k hk _ => hb.block k (by omega)⟩ ?_
  cases A <;> simp [Value.ownBlock]
theorem OW.len (h : OW w base A c l) : l.length ≤ c := by
  rcases h.2 with ⟨hv, hn⟩ | ⟨g, cap, cur, hv, hb, hg, hnc, hcm, hcs, ht⟩
  · injection hv with h1 h2 h3; omega
  · injection hv with h1 h2 h3; omega
theorem OW.new (w : World) (hb : base ≤ w.heap.size) (l : List Int) (hm : l.length ≤ 9223372036854775807) : OW (w.alloc (.cells (l.map (Value.int .i64)).toArray 2)) base (some ⟨w.heap.size, 0, none⟩) l.length l := by
  refine ⟨by simp, .inr ⟨w.heap.size, l.length, (l.map (Value.int .i64)).toArray, rfl, hb, heap_alloc_new w _, Nat.le_refl _, hm, by simp, by rw [List.take_of_length_le (by simp)]⟩⟩
theorem OW.at (h : OW w base A c l) {k : Nat} (hk : k < l.length) :
    ∃ g, A = some ⟨g, 0, none⟩ ∧ base ≤ g ∧ g < w.heap.size ∧ w.cell? ⟨g, k, none⟩ = some (.int .i64 l[k]) ∧ w.frozen? ⟨g, k, none⟩ = false := by
  rcases h.2 with ⟨hv, hn⟩ | ⟨g, cap, cur, hv, hb, hg, hnc, hcm, hcs, ht⟩
  · omega
  · injection hv with h1 h2 h3
    subst h1
    refine ⟨g, rfl, hb, (Array.getElem?_eq_some_iff.1 hg).1, ?_, ?_⟩
    · rw [cell_of_row w g k cur _ (0, 0) hg]
      have e : (l.map (Value.int .i64))[k]? = some (.int .i64 l[k]) := by simp [hk]
      rw [← ht, List.getElem?_take_of_lt (by omega)] at e
      simpa using e
    · unfold World.frozen?
      simp [hg]
theorem OW.rw (h : OW w base A c l) : RWd w w.heap.size A l := fun hne => by
  have hpos : 0 < l.length := by cases l; exact absurd rfl hne; simp
  obtain ⟨g, rfl, _, hg, _⟩ := h.at hpos
  refine ⟨g, 0, rfl, hg, fun j hj => ?_⟩
  obtain ⟨g', he, _, _, hc, _⟩ := h.at hj
  injection he with he
  injection he with he
  subst he
  rw [Nat.zero_add]
  exact hc
theorem OW.set {g : Nat} (h : OW w base (some ⟨g, 0, none⟩) c l) (k : Nat) (x : Int) : OW (w.setCell ⟨g, k, none⟩ (.int .i64 x)) base (some ⟨g, 0, none⟩) c (l.set k x) := by
  have := (World.ownsRow.stored h k (.int .i64 x)).1
  unfold OW
  rw [List.map_set, List.length_set]
  exact this
end
theorem words_one (l : List Int) : ∀ u ∈ l.map (Value.int .i64), u.oneCell' = true := by
  intro u hu
  obtain ⟨_, _, rfl⟩ := List.mem_map.1 hu
  rfl
theorem rw_src {w : World} {B : Nat} {A : Option Addr} {l : List Int} (h : RWd w B A l) : Src w A (l.map (Value.int .i64)) := fun hne => by
  obtain ⟨b, o, hA, _, hc⟩ := h (by rintro rfl; simp at hne)
  refine ⟨_, hA, fun j u hu => ?_⟩
  obtain ⟨x, hx, rfl⟩ := List.getElem?_map .. ▸ hu |> Option.map_eq_some_iff.1
  obtain ⟨hj, rfl⟩ := List.getElem?_eq_some_iff.1 hx
  have e : (⟨b, o, none⟩ : Addr).add j = ⟨b, o + j, none⟩ := by unfold Addr.add; split <;> simp_all
  rw [e]
  exact hc j hj
/-- append of words onto words of the call's own -/
theorem wpList_app_words (w : World) {ops : Array Oper} {rest : List Oper} {o : Oper} {a : Act} {Q : Exit → Act → World → Prop} (hgd : o.guard = none) (s x : Operand)
    (ho : o.op = .call { callee := .builtin .append, args := #[s, x], argTypes := #[32, 32] })
    (base : Nat) (A : Option Addr) (c : Nat) (l : List Int) (n : Nat) (hs : a.eval s = .slice A n c) (hn : n = l.length) (hown : OW w base A c l)
    (A2 : Option Addr) (c2 : Nat) (l2 : List Int) (m : Nat) (hx : a.eval x = .slice A2 m c2) (hm : m = l2.length) {B : Nat} (hsrc : RWd w B A2 l2)
    (hbytes : l.length + l2.length ≤ 17592186044416) (hbase : base ≤ w.heap.size)
    (h : ∀ A' c' L w', Hid (L = l ++ l2) → OW w' base A' c' L → w.grownBy w' (A.map (·.block)) → wpList Tryd.prog ops Q rest (a.put o.dst (.slice A' L.length c')) w') : wpList Tryd.prog ops Q (o :: rest) a w := by
  subst hn
  subst hm
  refine wpList_app w hgd s x 32 ho base 2 (.int .i64 0) 1 8 Tryd.underlying32 Tryd.infoWord rfl (by decide) A l.length c (l.map (Value.int .i64)) hs hown A2 l2.length c2 (l2.map (Value.int .i64)) hx (by simp) (rw_src hsrc) (words_one l2) (by omega) (by unfold maxLen; omega) hbase ?_
  intro A' c' w' h2 h3 _
  have := h A' c' (l ++ l2) w' rfl (by unfold OW; rw [List.map_append, List.length_append]; exact h2) h3
  rw [List.length_append] at this
  exact this
/-- make([]int64, n): n noughts -/
theorem wpList_makeN_words (w : World) {ops : Array Oper} {rest : List Oper} {o : Oper} {a : Act} {Q : Exit → Act → World → Prop} (hg : o.guard = none) (l c : Operand) (hop : o.op = Op.makeSlice 32 l c)
    (base : Nat) (kl kc : IntKind) (C : Int) (n : Nat) (hl : a.eval l = .int kl C) (hc : a.eval c = .int kc C) (hC : C = (n : Int)) (b2 : n ≤ 35184372088832) (b4 : base ≤ w.heap.size)
    (hK : ∀ w' L, Hid (L = List.replicate n (0 : Int)) → OW w' base (some ⟨w.heap.size, 0, none⟩) n L → w.grownBy w' none → wpList Tryd.prog ops Q rest (a.put o.dst (.slice (some ⟨w.heap.size, 0, none⟩) n n)) w') :
    wpList Tryd.prog ops Q (o :: rest) a w := by
  obtain ⟨i, hi, hz, hs1, hb1⟩ := info_parts Tryd.infoWord
  refine wpList_make_full w hg l c 32 hop base 2 i (.int .i64 0) 1 Tryd.underlying32 hi hz hs1 kl kc C C n hl hc hC hC (by rw [hb1]; omega) (by unfold maxLen; omega) b4 fun w' h1 h2 => hK w' _ rfl ?_ h2
  unfold OW
  have e : (madeCells (Value.int .i64 0).cells (n * 1)).toList = (List.replicate n (0 : Int)).map (Value.int .i64) := by
    rw [Nat.mul_one, List.map_replicate]
    show (madeCells #[.int .i64 0] n).toList = _
    rw [toList_madeCells_one]
  rw [e] at h1
  rw [List.length_replicate]
  exact h1
def RetClone (w : World) (l : List Int) (e : Ending) (w' : World) : Prop := ∃ A c, e = .returned (.slice A l.length c) ∧ OW w' w.heap.size A c l ∧ Below w.heap.size w w'
set_option maxHeartbeats 1000000 in
set_option maxRecDepth 100000 in
theorem clone_calls (w : World) (A : Option Addr) (c : Nat) (l : List Int) (h : RWd w w.heap.size A l) (h8 : l.length ≤ 17592186044415) :
    Calls Tryd.prog 19 #[.slice A l.length c] w (RetClone w l) := by
  cases A with
  | none =>
    have hl : l = [] := by
      apply Classical.byContradiction
      intro hne
      obtain ⟨_, _, h, _⟩ := h hne
      cases h
    subst hl
    clear h8 h
    have hnil := fun (w : World) (a : Option Addr) (n c : Nat) => Lib.run_eql_slice_nil (P := Tryd.prog) w 32 2 a n c 0 0 Tryd.underlying32
    go_enter Tryd.func19, Tryd.ntmps19
    go_wp2
    go_ret
    exact ⟨none, 0, rfl, OW.nil _ _, Below.refl _ _⟩
  | some a =>
    have hW := OW.new w (base := w.heap.size) (Nat.le_refl _) [] (by simp)
    have HW := Lib.hid hW
    have HR := Lib.hid (h.below ((Below.refl _ _).alloc (Nat.le_refl _) (.cells #[] 2)))
    have H8 := Lib.hid h8
    clear hW h h8
    have hnil := fun (w : World) (a : Option Addr) (n c : Nat) => Lib.run_eql_slice_nil (P := Tryd.prog) w 32 2 a n c 0 0 Tryd.underlying32
    go_enter Tryd.func19, Tryd.ntmps19
    go_wp2_with (at_builtin; refine wpList_app_words _ rfl _ _ rfl w.heap.size (some ⟨w.heap.size, 0, none⟩) 0 [] _ rfl rfl HW.out (some a) c l _ rfl rfl HR.out (by have := H8.out; simp; omega) (by simp) ?_)
    intro A' c' L w1 HL ho hg
    have hL : L = l := HL.out
    subst hL
    have HO := Lib.hid ho
    have HG : Hid (Below w.heap.size w w1) := Lib.hid (((Below.refl w.heap.size w).alloc (Nat.le_refl _) _).grown hg (by simp) (fun k e => by simp at e; omega))
    clear HL ho hg
    go_wp2
    go_ret
    exact ⟨A', c', rfl, HO.out, HG.out⟩
end Go.Proofs.YtlecpekgnlaneaaDoor
