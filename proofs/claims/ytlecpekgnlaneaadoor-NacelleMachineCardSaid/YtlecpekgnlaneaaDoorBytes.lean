/- Bytes that a call makes itself, append onto them, and what a conversion to a string gives: laws of our own over this seat's numbers. -/
import Derived.Test.YtlecpekgnlaneaaDoorProg
import Derived.Test.YtlecpekgnlaneaaDoorCom
import Derived.Lib.Hide
import Derived.Maps.AppendAt
import Derived.Deep.OwnRows
namespace Go.Proofs.YtlecpekgnlaneaaDoor
open Go.RowKit Nac
theorem Tryd.infoByte : (Tryd.prog.info? 5).map (fun i => (i.zero, i.size, i.bytes)) = some (some (.int .u8 0), 1, 1) := by kernel_rfl

section
variable {P : Program} (w : World)
/-- the cells of a source: asked for where there is one -/
def Src (w : World) (A : Option Addr) (news : List Value) : Prop := news ≠ [] → ∃ ad, A = some ad ∧ ∀ j u, news[j]? = some u → w.cell? (ad.add j) = some u
theorem own_form {base : Nat} {e : TypeId} {size : Nat} {v : Value} {n : Nat} {xs : List Value} (h : w.ownsRow base e size v n xs) : ∃ A c, v = .slice A n c := by
  rcases h.2 with ⟨rfl, rfl⟩ | ⟨g, cap, cur, rfl, _⟩
  · exact ⟨_, _, rfl⟩
  · exact ⟨_, _, rfl⟩
theorem run_app_none (base : Nat) (t ty e : TypeId) (i : TypeInfo) (size : Nat) (ht : P.underlying t = some (.slice e)) (hi : P.info? e = some i)
    (v : Value) (n : Nat) (xs : List Value) (hown : w.ownsRow base e size v n xs) (c : Nat) : (Builtin.append_ #[t, t] ty #[v, .slice none 0 c]).run P w = .ok v w := by
  rcases hown.2 with ⟨rfl, rfl⟩ | ⟨g, cap, cur, rfl, _, _, hnc, _⟩
  · simp [Builtin.append_, run_underlying ht, sizeOf, typeInfo, hi, Builtin.lenOf, Builtin.firstCells]
  · simp [Builtin.append_, run_underlying ht, sizeOf, typeInfo, hi, Builtin.lenOf, Builtin.firstCells, hnc, storeCells]
theorem run_app (base : Nat) (t ty e : TypeId) (z : Value) (size bytes : Nat) (ht : P.underlying t = some (.slice e)) (hinfo : (P.info? e).map (fun i => (i.zero, i.size, i.bytes)) = some (some z, size, bytes))
    (hzs : z.cells.size = size) (hsz : 0 < size) (A : Option Addr) (n c : Nat) (xs : List Value) (hown : w.ownsRow base e size (.slice A n c) n xs)
    (A2 : Option Addr) (m c2 : Nat) (news : List Value) (hl : news.length = m * size) (hs : Src w A2 news) (h1 : ∀ u ∈ news, u.oneCell' = true)
    (hbytes : (n + m) * bytes ≤ 140737488355328) (h63 : n + m ≤ maxLen) (hbase : base ≤ w.heap.size) :
    ∃ A' c' w', (Builtin.append_ #[t, t] ty #[.slice A n c, .slice A2 m c2]).run P w = .ok (.slice A' (n + m) c') w' ∧ w'.ownsRow base e size (.slice A' (n + m) c') (n + m) (xs ++ news) ∧
      w.grownBy w' (A.map (·.block)) ∧ (A'.map (·.block) = A.map (·.block) ∨ A'.map (·.block) = some w.heap.size) := by
  obtain ⟨i, hi, hz, hs1, hb1⟩ := info_parts hinfo
  have eb : Value.ownBlock (.slice A n c) = A.map (·.block) := by cases A <;> rfl
  rcases A2 with _ | ad
  · have hnews : news = [] := by
      apply Classical.byContradiction
      intro hne
      obtain ⟨ad, h, _⟩ := hs hne
      cases h
    subst hnews
    have hm : m = 0 := by
      rcases Nat.eq_zero_or_pos m with h | h
      · exact h
      · have := Nat.mul_pos h hsz
        simp at hl
        omega
    subst hm
    exact ⟨A, c, w, run_app_none w base t ty e i size ht hi _ n xs hown c2, by simpa using hown, World.grownBy.refl w _, .inl rfl⟩
  · have hc : ∀ j u, news[j]? = some u → w.cell? (ad.add j) = some u := by
      intro j u hu
      obtain ⟨ad', h, hh⟩ := hs (by rintro rfl; simp at hu)
      injection h with h
      subst h
      exact hh j u hu
    obtain ⟨v', w', hr, h2, h3, _, h5⟩ := run_append_own_at (P := P) w base t ty e i z size bytes ht hi hz hs1 hb1 hzs hsz _ n xs hown ad m c2 news hl hc h1 h63 hbytes hbase
    obtain ⟨A', c', rfl⟩ := own_form w' h2
    have eb' : Value.ownBlock (.slice A' (n + m) c') = A'.map (·.block) := by cases A' <;> rfl
    rw [eb] at h3 h5
    rw [eb'] at h5
    exact ⟨A', c', w', hr, h2, h3, h5⟩
theorem wpList_app {ops : Array Oper} {rest : List Oper} {o : Oper} {a : Act} {Q : Exit → Act → World → Prop} (hgd : o.guard = none) (s x : Operand) (t : TypeId)
    (ho : o.op = .call { callee := .builtin .append, args := #[s, x], argTypes := #[t, t] })
    (base : Nat) (e : TypeId) (z : Value) (size bytes : Nat) (ht : P.underlying t = some (.slice e)) (hinfo : (P.info? e).map (fun i => (i.zero, i.size, i.bytes)) = some (some z, size, bytes))
    (hzs : z.cells.size = size) (hsz : 0 < size) (A : Option Addr) (n c : Nat) (xs : List Value) (hs : a.eval s = .slice A n c) (hown : w.ownsRow base e size (.slice A n c) n xs)
    (A2 : Option Addr) (m c2 : Nat) (news : List Value) (hx : a.eval x = .slice A2 m c2) (hl : news.length = m * size) (hsrc : Src w A2 news) (h1 : ∀ u ∈ news, u.oneCell' = true)
    (hbytes : (n + m) * bytes ≤ 140737488355328) (h63 : n + m ≤ maxLen) (hbase : base ≤ w.heap.size)
    (h : ∀ A' c' w', w'.ownsRow base e size (.slice A' (n + m) c') (n + m) (xs ++ news) → w.grownBy w' (A.map (·.block)) → (A'.map (·.block) = A.map (·.block) ∨ A'.map (·.block) = some w.heap.size) →
      wpList P ops Q rest (a.put o.dst (.slice A' (n + m) c')) w') : wpList P ops Q (o :: rest) a w := by
  obtain ⟨A', c', w', hr, h2, h3, h4⟩ := run_app (P := P) w base t o.type e z size bytes ht hinfo hzs hsz A n c xs hown A2 m c2 news hl hsrc h1 hbytes h63 hbase
  refine wpList_plain hgd fun K hK => ?_
  unfold Oper.wp execOp
  simp only [ho, resolve, invoke, builtin, Sem.run_bind, Sem.run_pure, Result.andThen_ok, List.map_toArray, List.map_cons, List.map_nil, hs, hx, hr]
  exact hK _ _ (h A' c' w' h2 h3 h4)
end

/-- the slice at A, of capacity c, is the call's own (from block 'base' on) and holds the bytes l -/
def OB (w : World) (base : Nat) (A : Option Addr) (c : Nat) (l : List UInt8) : Prop := w.ownsRow base 5 1 (.slice A l.length c) l.length (l.map bv)
section
variable {w w' : World} {base B : Nat} {A : Option Addr} {c : Nat} {l : List UInt8}
theorem OB.nil (w : World) (base : Nat) : OB w base none 0 [] := World.ownsRow_nil w base _ _
theorem OB.rb (h : OB w base A c l) : RB w w.heap.size A l := fun hne => by
  rcases h.2 with ⟨hv, hn⟩ | ⟨g, cap, cur, hv, hb, hg, hnc, hcm, hcs, ht⟩
  · exact absurd (List.eq_nil_of_length_eq_zero hn) hne
  · injection hv with h1 h2 h3
    subst h1
    refine ⟨g, 0, rfl, (Array.getElem?_eq_some_iff.1 hg).1, fun j hj => ?_⟩
    rw [cell_of_row w g (0 + j) cur _ (0, 0) hg, Nat.zero_add]
    have e : (l.map bv)[j]? = some (bv l[j]) := by simp [hj]
    rw [← ht, List.getElem?_take_of_lt (by omega)] at e
    simpa [bv] using e
theorem OB.kept (h : OB w base A c l) {row : Option Nat} (hg : w.grownBy w' row) (hne : A = none ∨ A.map (·.block) ≠ row) : OB w' base A c l :=
  World.ownsRow.kept h hg (by cases A <;> simp_all [Value.ownBlock])
theorem OB.alloc (h : OB w base A c l) (o : Obj) : OB (w.alloc o) base A c l := World.ownsRow.alloc h o
theorem OB.drew (h : OB w base A c l) : OB w.drew base A c l := h
theorem OB.drewN (h : OB w base A c l) (n : Nat) : OB (w.drewN n) base A c l := h
theorem OB.lt (h : OB w base A c l) : ∀ g, A.map (·.block) = some g → base ≤ g ∧ g < w.heap.size := fun g hg => World.ownsRow.lt h g (by cases A <;> simp_all [Value.ownBlock])
theorem OB.below (h : OB w base A c l) (hb : Below B w w') (hB : w.heap.size ≤ B) : OB w' base A c l := by
  refine World.ownsRow.kept h (row := none) ⟨hb.os, hb.tape, hb.output, hb.size, fun k hk _ => hb.block k (by omega)⟩ ?_
  cases A <;> simp [Value.ownBlock]
theorem OB.len (h : OB w base A c l) : l.length ≤ c := by
  rcases h.2 with ⟨hv, hn⟩ | ⟨g, cap, cur, hv, hb, hg, hnc, hcm, hcs, ht⟩
  · injection hv with h1 h2 h3; omega
  · injection hv with h1 h2 h3; omega
theorem OB.mono {base' : Nat} (h : OB w base A c l) (hb : base' ≤ base) : OB w base' A c l := by
  refine ⟨h.1, ?_⟩
  rcases h.2 with h | ⟨g, cap, cur, hv, hbg, r⟩
  · exact .inl h
  · exact .inr ⟨g, cap, cur, hv, by omega, r⟩
/-- a row that has just been laid -/
theorem OB.new (w : World) (hb : base ≤ w.heap.size) (l : List UInt8) (hm : l.length ≤ 9223372036854775807) : OB (w.alloc (.cells (l.map bv).toArray 5)) base (some ⟨w.heap.size, 0, none⟩) l.length l := by
  refine ⟨by simp, .inr ⟨w.heap.size, l.length, (l.map bv).toArray, rfl, hb, heap_alloc_new w _, Nat.le_refl _, hm, by simp, by rw [List.take_of_length_le (by simp)]⟩⟩
end
theorem bv_oneCell (l : List UInt8) : ∀ u ∈ l.map bv, u.oneCell' = true := by
  intro u hu
  obtain ⟨_, _, rfl⟩ := List.mem_map.1 hu
  rfl
theorem rb_src {w : World} {B : Nat} {A : Option Addr} {l : List UInt8} (h : RB w B A l) : Src w A (l.map bv) := fun hne => by
  obtain ⟨b, o, hA, _, hc⟩ := h (by rintro rfl; simp at hne)
  refine ⟨_, hA, fun j u hu => ?_⟩
  obtain ⟨x, hx, rfl⟩ := List.getElem?_map .. ▸ hu |> Option.map_eq_some_iff.1
  obtain ⟨hj, rfl⟩ := List.getElem?_eq_some_iff.1 hx
  have e : (⟨b, o, none⟩ : Addr).add j = ⟨b, o + j, none⟩ := by unfold Addr.add; split <;> simp_all
  rw [e]
  exact hc j hj
/-- bytes that have just been laid in a block read so -/
theorem rb_new (w : World) (t : TypeId) (l : List UInt8) : RB (w.alloc (.cells (l.map bv).toArray t)) (w.heap.size + 1) (some ⟨w.heap.size, 0, none⟩) l := fun _ => by
  refine ⟨w.heap.size, 0, rfl, by omega, fun j hj => ?_⟩
  rw [World.cell?_alloc_at _ _ _ _ rfl]
  simp [bv, hj]
theorem rb_byte (w : World) (t : TypeId) (m : Nat) : RB (w.alloc (.cells #[.int .u8 ((m : Int) % 256)] t)) (w.heap.size + 1) (some ⟨w.heap.size, 0, none⟩) [UInt8.ofNat m] := by
  have h := rb_new w t [UInt8.ofNat m]
  simp only [List.map_cons, List.map_nil, bv, UInt8.toNat_ofNat'] at h
  exact h
/-- behind an append onto a row of the call's own: what lay below stands -/
theorem below_app {B base : Nat} {a w w' : World} {A : Option Addr} {c : Nat} {l : List UInt8} (h : Below B a w) (hg : w.grownBy w' (A.map (·.block))) (ho : OB w base A c l) (hB : B ≤ w.heap.size) (hb : B ≤ base) : Below B a w' :=
  h.grown hg hB (fun k hk => Nat.le_trans hb (ho.lt k hk).1)
/-- append of bytes onto bytes of the call's own -/
theorem wpList_app_bytes (w : World) {ops : Array Oper} {rest : List Oper} {o : Oper} {a : Act} {Q : Exit → Act → World → Prop} (hgd : o.guard = none) (s x : Operand)
    (ho : o.op = .call { callee := .builtin .append, args := #[s, x], argTypes := #[22, 22] })
    (base : Nat) (A : Option Addr) (c : Nat) (l : List UInt8) (n : Nat) (hs : a.eval s = .slice A n c) (hn : n = l.length) (hown : OB w base A c l)
    (A2 : Option Addr) (c2 : Nat) (l2 : List UInt8) (m : Nat) (hx : a.eval x = .slice A2 m c2) (hm : m = l2.length) {B : Nat} (hsrc : RB w B A2 l2)
    (hbytes : l.length + l2.length ≤ 140737488355328) (hbase : base ≤ w.heap.size)
    (h : ∀ A' c' L w', Hid (L = l ++ l2) → OB w' base A' c' L → w.grownBy w' (A.map (·.block)) → (A'.map (·.block) = A.map (·.block) ∨ A'.map (·.block) = some w.heap.size) →
      wpList Tryd.prog ops Q rest (a.put o.dst (.slice A' L.length c')) w') : wpList Tryd.prog ops Q (o :: rest) a w := by
  subst hn
  subst hm
  refine wpList_app w hgd s x 22 ho base 5 (.int .u8 0) 1 1 Tryd.underlying22 Tryd.infoByte rfl (by decide) A l.length c (l.map bv) hs hown A2 l2.length c2 (l2.map bv) hx (by simp) (rb_src hsrc) (bv_oneCell l2) (by omega) (by unfold maxLen; omega) hbase ?_
  intro A' c' w' h2 h3 h4
  have := h A' c' (l ++ l2) w' rfl (by unfold OB; rw [List.map_append, List.length_append]; exact h2) h3 h4
  rw [List.length_append] at this
  exact this
/-- what comes back is bytes of the call's own -/
def RetOB (w : World) (l : List UInt8) (e : Ending) (w' : World) : Prop := ∃ A c, e = .returned (.slice A l.length c) ∧ OB w' w.heap.size A c l ∧ Below w.heap.size w w'
/-- make([]byte, 0, n) -/
theorem wpList_make0_bytes (w : World) {ops : Array Oper} {rest : List Oper} {o : Oper} {a : Act} {Q : Exit → Act → World → Prop} (hg : o.guard = none) (l c : Operand) (hop : o.op = Op.makeSlice 22 l c)
    (base : Nat) (kl kc : IntKind) (C : Int) (n : Nat) (hl : a.eval l = .int kl 0) (hc : a.eval c = .int kc C) (hC : C = (n : Int)) (b2 : n ≤ 281474976710656) (b4 : base ≤ w.heap.size)
    (hK : ∀ w', OB w' base (some ⟨w.heap.size, 0, none⟩) n [] → w.grownBy w' none → wpList Tryd.prog ops Q rest (a.put o.dst (.slice (some ⟨w.heap.size, 0, none⟩) 0 n)) w') :
    wpList Tryd.prog ops Q (o :: rest) a w := by
  obtain ⟨i, hi, hz, hs1, hb1⟩ := info_parts Tryd.infoByte
  exact wpList_make_own w hg l c 22 hop base 5 i (.int .u8 0) 1 Tryd.underlying22 hi hz hs1 kl kc C n hl hc hC (by rw [hb1]; omega) (by unfold maxLen; omega) b4 hK
end Go.Proofs.YtlecpekgnlaneaaDoor
