/- The document's Send. -/
import Derived.Test.YtdjphdkoljfndaaRefRecv
namespace Go.Proofs.Ytdjphdkoljfndaa
open Go.RowKit Nac
theorem Try.infoMsg2 : (Try.prog.info? 68).map (fun i => (i.zero, i.size, i.bytes)) = some (some (.agg #[.string ⟨#[]⟩, .int .u64 0]), 2, 24) := by kernel_rfl
/-- the slice at A is the call's own and holds the messages -/
def OQ (w : World) (base : Nat) (A : Option Addr) (c : Nat) (q : List Msg) : Prop := w.ownsRow base 68 2 (.slice A q.length c) q.length (q.map mc2).flatten
theorem mcs_len (q : List Msg) : (q.map mc2).flatten.length = q.length * 2 := by
  induction q with
  | nil => rfl
  | cons x q ih => simp only [List.map_cons, List.flatten_cons, List.length_append, ih, List.length_cons, mc2]; simp; omega
theorem mcs_get (q : List Msg) : ∀ j (h : j < q.length), (q.map mc2).flatten[j * 2]? = some (.string (strB q[j].b)) ∧ (q.map mc2).flatten[j * 2 + 1]? = some (.int .u64 q[j].at_) := by
  induction q with
  | nil => intro j h; simp at h
  | cons x q ih =>
    intro j h
    cases j with
    | zero => exact ⟨rfl, rfl⟩
    | succ j =>
      have := ih j (by simpa using h)
      rw [show (j + 1) * 2 = j * 2 + 2 by omega, show j * 2 + 2 + 1 = j * 2 + 1 + 2 by omega]
      exact this
theorem OQ.rq {w : World} {base c : Nat} {A : Option Addr} {q : List Msg} (h : OQ w base A c q) : RQ w w.heap.size A q := fun hne => by
  rcases h.2 with ⟨hv, hn⟩ | ⟨g, cap, cur, hv, hb, hg, hnc, hcm, hcs, ht⟩
  · exact absurd (List.eq_nil_of_length_eq_zero hn) hne
  · injection hv with h1 h2 h3
    subst h1
    refine ⟨g, 0, rfl, (Array.getElem?_eq_some_iff.1 hg).1, fun j hj => ?_⟩
    obtain ⟨e0, e1⟩ := mcs_get q j hj
    rw [← ht, List.getElem?_take_of_lt (by omega)] at e0 e1
    rw [cell_of_row w g _ cur _ (0, 0) hg, cell_of_row w g _ cur _ (0, 0) hg, Nat.zero_add]
    exact ⟨by simpa using e0, by simpa using e1⟩
theorem OQ.len {w : World} {base c : Nat} {A : Option Addr} {q : List Msg} (h : OQ w base A c q) : q.length ≤ c := by
  rcases h.2 with ⟨hv, hn⟩ | ⟨g, cap, cur, hv, hb, hg, hnc, hcm, hcs, ht⟩
  · injection hv with h1 h2 h3; omega
  · injection hv with h1 h2 h3; omega
theorem OQ.lt {w : World} {base c : Nat} {A : Option Addr} {q : List Msg} (h : OQ w base A c q) : ∀ g, A.map (·.block) = some g → base ≤ g ∧ g < w.heap.size := fun g hg => World.ownsRow.lt h g (by cases A <;> simp_all [Value.ownBlock])
theorem OQ.kept {w w' : World} {base c : Nat} {A : Option Addr} {q : List Msg} (h : OQ w base A c q) {row : Option Nat} (hg : w.grownBy w' row) (hne : A = none ∨ A.map (·.block) ≠ row) : OQ w' base A c q :=
  World.ownsRow.kept h hg (by cases A <;> simp_all [Value.ownBlock])
theorem OQ.alloc {w : World} {base c : Nat} {A : Option Addr} {q : List Msg} (h : OQ w base A c q) (o : Obj) : OQ (w.alloc o) base A c q := World.ownsRow.alloc h o
theorem OQ.new (w : World) {base : Nat} (hb : base ≤ w.heap.size) (q : List Msg) (hm : q.length ≤ 9223372036854775807) : OQ (w.alloc (.cells (q.map mc2).flatten.toArray 68)) base (some ⟨w.heap.size, 0, none⟩) q.length q :=
  ⟨mcs_len q, .inr ⟨w.heap.size, q.length, _, rfl, hb, heap_alloc_new w _, Nat.le_refl _, hm, by simp [← mcs_len], by rw [List.take_of_length_le (by rw [mcs_len]; exact Nat.le_refl _)]⟩⟩
theorem rq_src {w : World} {B : Nat} {A : Option Addr} {q : List Msg} (h : RQ w B A q) : Src w A (q.map mc2).flatten := fun hne => by
  obtain ⟨b, o, hA, _, hc⟩ := h (by rintro rfl; simp at hne)
  refine ⟨_, hA, fun j u hu => ?_⟩
  have hj : j < q.length * 2 := by rw [← mcs_len]; exact (List.getElem?_eq_some_iff.1 hu).1
  have e : (⟨b, o, none⟩ : Addr).add j = ⟨b, o + j, none⟩ := by unfold Addr.add; split <;> simp_all
  rw [e]
  have hq : j / 2 < q.length := by omega
  obtain ⟨c0, c1⟩ := hc (j / 2) hq
  obtain ⟨e0, e1⟩ := mcs_get q (j / 2) hq
  rcases (by omega : j = j / 2 * 2 ∨ j = j / 2 * 2 + 1) with hh | hh
  · rw [hh, e0] at hu
    rw [hh, ← hu, ← c0]
  · rw [hh, e1] at hu
    rw [hh, ← hu, ← c1]
    congr 2
theorem mcs_one (q : List Msg) : ∀ u ∈ (q.map mc2).flatten, u.oneCell' = true := by
  intro u hu
  simp only [List.mem_flatten, List.mem_map] at hu
  obtain ⟨_, ⟨x, _, rfl⟩, hu⟩ := hu
  simp only [mc2, List.mem_cons, List.not_mem_nil, or_false] at hu
  rcases hu with rfl | rfl <;> rfl
theorem wpList_app_msgs (w : World) {ops : Array Oper} {rest : List Oper} {o : Oper} {a : Act} {Q : Exit → Act → World → Prop} (hgd : o.guard = none) (s x : Operand)
    (ho : o.op = .call { callee := .builtin .append, args := #[s, x], argTypes := #[46, 46] })
    (base : Nat) (A : Option Addr) (c : Nat) (l : List Msg) (n : Nat) (hs : a.eval s = .slice A n c) (hn : n = l.length) (hown : OQ w base A c l)
    (A2 : Option Addr) (c2 : Nat) (l2 : List Msg) (m : Nat) (hx : a.eval x = .slice A2 m c2) (hm : m = l2.length) {B : Nat} (hsrc : RQ w B A2 l2)
    (hbytes : l.length + l2.length ≤ 1000) (hbase : base ≤ w.heap.size)
    (h : ∀ A' c' L w', Hid (L = l ++ l2) → OQ w' base A' c' L → w.grownBy w' (A.map (·.block)) → wpList Try.prog ops Q rest (a.put o.dst (.slice A' L.length c')) w') : wpList Try.prog ops Q (o :: rest) a w := by
  subst hn
  subst hm
  refine wpList_app w hgd s x 46 ho base 68 (.agg #[.string ⟨#[]⟩, .int .u64 0]) 2 24 Try.underlying46 Try.infoMsg2 rfl (by decide) A l.length c _ hs hown A2 l2.length c2 _ hx (mcs_len l2) (rq_src hsrc) (mcs_one l2) (by omega) (by unfold maxLen; omega) hbase ?_
  intro A' c' w' h2 h3 h4
  have := h A' c' (l ++ l2) w' rfl (by unfold OQ; rw [List.map_append, List.flatten_append, List.length_append]; exact h2) h3
  rw [List.length_append] at this
  exact this
def RetRS (w : World) (C : Ch) (l : List UInt8) (now : Nat) (e : Ending) (w' : World) : Prop :=
  ∃ v, e = .returned (.tuple #[v, .int .i64 (C.send l now).2]) ∧ RCh w' (C.send l now).1 v ∧ Below w.heap.size w w'
theorem retrs {w w' : World} {C C' : Ch} {l : List UInt8} {now : Nat} {z : Int} {v : Value} (hs : C.send l now = (C', z)) (hv : RCh w' C' v) (hb : Below w.heap.size w w') : RetRS w C l now (.returned (.tuple #[v, .int .i64 z])) w' := by
  unfold RetRS
  rw [hs]
  exact ⟨v, rfl, hv, hb⟩
set_option maxHeartbeats 4000000 in
theorem refsend_calls (w : World) (C : Ch) (hC : C.ok) (l : List UInt8) (h8 : l.length ≤ 140737488351232) (now : Nat) (v : Value) (h : RCh w C v) (hnow : now ≤ 18446744073709551615) :
    Calls Try.prog 23 #[v, .string (strB l), .int .u64 now] w (RetRS w C l now) := by
  have hlen := hC.len
  have hmost := hC.most
  have hone := hC.one
  have hkind := hC.kind
  have hlost := hC.lost
  have hsz : (strB l).size = l.length := rfl
  obtain ⟨k, m, s, lo, q⟩ := C
  simp only at hlen hmost hone hkind hlost
  obtain ⟨A, c, rfl, hr, hc⟩ := h
  simp only at hr hc
  obtain ⟨n, hn⟩ : ∃ n, n = q.length := ⟨_, rfl⟩
  have HN := Lib.hid hn
  have HR := Lib.hid hr
  clear hr hC
  simp only
  rw [← hn] at hlen hc ⊢
  clear hn
  have H2 : Hid (∀ (o1 o2 : Obj), RQ ((w.alloc o1).alloc o2) ((w.alloc o1).alloc o2).heap.size A q) := Lib.hid fun o1 o2 => by
    have hw : Below w.heap.size w ((w.alloc o1).alloc o2) := ((Below.refl _ _).alloc (Nat.le_refl _) _).alloc (by simp) _
    exact (HR.out.below hw).mono hw.size
  obtain ⟨li, hli⟩ : ∃ li : Int, Hid (li = (lo : Int)) := ⟨_, rfl⟩
  have g0 : 0 ≤ li := by have := hli.out; omega
  have g1 : li ≤ 18446744073709551615 := by have := hli.out; omega
  clear hlost
  have HNW := Lib.hid hnow
  clear hnow
  rw [← hli.out]
  by_cases hl : s < l.length
  · have HS : Hid (Ch.send ⟨k, m, s, lo, q⟩ l now = (⟨k, m, s, lo, q⟩, 1)) := Lib.hid (if_pos hl)
    go_enter Try.func23, Try.ntmps23
    go_wp2
    refine bodyPost_ret (v := .tuple #[.agg #[.int .i64 k, .int .i64 m, .int .i64 s, .slice A n c, .int .u64 li], .int .i64 1]) (by simp [results, Try.results23, go_sem]) rfl (retrs HS.out ⟨A, c, by rw [HN.out, hli.out], H2.out _ _, by rw [← HN.out]; exact hc⟩ ?_)
    exact ((Below.refl _ _).alloc (Nat.le_refl _) _).alloc (by simp) _
  · by_cases hk0 : k = 0
    · obtain rfl : m = 1 := hone hk0
      have HS : Hid (Ch.send ⟨k, 1, s, lo, q⟩ l now = (⟨k, 1, s, lo, [⟨l, now⟩]⟩, 0)) := Lib.hid <| by
        have hn := HN.out
        match q, hn with
        | [], _ => simp [Ch.send, hl]
        | [x], _ => simp [Ch.send, hl, hk0]
        | _ :: _ :: _, hn => simp at hn; omega
      have HQ : Hid (∀ (o1 o2 : Obj), RQ (((w.alloc o1).alloc o2).alloc (.cells #[.string (strB l), .int .u64 now] 68)) (((w.alloc o1).alloc o2).alloc (.cells #[.string (strB l), .int .u64 now] 68)).heap.size (some ⟨w.heap.size + 1 + 1, 0, none⟩) [⟨l, now⟩]) := Lib.hid fun o1 o2 => by
        have := (OQ.new ((w.alloc o1).alloc o2) (base := 0) (Nat.zero_le _) [⟨l, now⟩] (by simp)).rq
        simpa [mc2] using this
      have hkk : (k : Int) = 0 := by omega
      clear hone hkind
      go_enter Try.func23, Try.ntmps23
      go_wp2
      refine bodyPost_ret (v := .tuple #[.agg #[.int .i64 k, .int .i64 (1 : Nat), .int .i64 s, .slice (some ⟨w.heap.size + 1 + 1, 0, none⟩) 1 1, .int .u64 li], .int .i64 0]) (by simp [results, Try.results23, go_sem, hkk]) rfl (retrs HS.out ⟨_, _, by rw [hli.out]; rfl, HQ.out _ _, Nat.le_refl _⟩ ?_)
      exact (((Below.refl _ _).alloc (Nat.le_refl _) _).alloc (by simp) _).alloc (by simp; omega) _
    · have hkb : ((k : Int) == 0) = false := by simp; omega
      by_cases hnm : n = m
      · subst hnm
        rcases (by omega : k = 1 ∨ k = 2) with hk1 | hk2
        · have HS : Hid (Ch.send ⟨k, n, s, lo, q⟩ l now = (⟨k, n, s, lo, q⟩, 5)) := Lib.hid <| by simp [Ch.send, hl, hk1, HN.out]
          have hkk : (k : Int) = 1 := by omega
          clear hk0 hone hkind
          go_enter Try.func23, Try.ntmps23
          go_wp2
          refine bodyPost_ret (v := .tuple #[.agg #[.int .i64 k, .int .i64 n, .int .i64 s, .slice A n c, .int .u64 li], .int .i64 5]) (by simp [results, Try.results23, go_sem, hkk]) rfl (retrs HS.out ⟨A, c, by rw [hli.out, ← HN.out], H2.out _ _, by rw [← HN.out]; exact hc⟩ ?_)
          exact ((Below.refl _ _).alloc (Nat.le_refl _) _).alloc (by simp) _
        · have hkk : ((k : Int) == 1) = false := by simp; omega
          by_cases hlo : lo < 18446744073709551615
          · have HS : Hid (Ch.send ⟨k, n, s, lo, q⟩ l now = (⟨k, n, s, lo + 1, q⟩, 0)) := Lib.hid <| by simp [Ch.send, hl, hk2, HN.out, hlo]
            have g2 : li < 18446744073709551615 := by have := hli.out; omega
            clear hk0 hone hkind hlo hk2
            go_enter Try.func23, Try.ntmps23
            go_wp2
            refine bodyPost_ret (v := .tuple #[.agg #[.int .i64 k, .int .i64 n, .int .i64 s, .slice A n c, .int .u64 (li + 1)], .int .i64 0]) (by simp [results, Try.results23, go_sem]) rfl (retrs HS.out ⟨A, c, by rw [hli.out, ← HN.out]; rfl, H2.out _ _, by rw [← HN.out]; exact hc⟩ ?_)
            exact ((Below.refl _ _).alloc (Nat.le_refl _) _).alloc (by simp) _
          · have HS : Hid (Ch.send ⟨k, n, s, lo, q⟩ l now = (⟨k, n, s, lo, q⟩, 0)) := Lib.hid <| by simp [Ch.send, hl, hk2, HN.out, hlo]
            have g2 : 18446744073709551615 ≤ li := by have := hli.out; omega
            clear hk0 hone hkind hlo hk2
            go_enter Try.func23, Try.ntmps23
            go_wp2
            refine bodyPost_ret (v := .tuple #[.agg #[.int .i64 k, .int .i64 n, .int .i64 s, .slice A n c, .int .u64 li], .int .i64 0]) (by simp [results, Try.results23, go_sem]) rfl (retrs HS.out ⟨A, c, by rw [hli.out, ← HN.out], H2.out _ _, by rw [← HN.out]; exact hc⟩ ?_)
            exact ((Below.refl _ _).alloc (Nat.le_refl _) _).alloc (by simp) _
      · have HS : Hid (Ch.send ⟨k, m, s, lo, q⟩ l now = (⟨k, m, s, lo, q ++ [⟨l, now⟩]⟩, 0)) := Lib.hid <| by
          have : q.length ≠ m := by rw [← HN.out]; exact hnm
          simp [Ch.send, hl, this]
        have hnm' : n < m := by omega
        obtain ⟨w2, hw2⟩ : ∃ w2, w2 = (w.alloc (.cells #[.int .i64 k, .int .i64 m, .int .i64 s, .slice A n c, .int .u64 li] 48)).alloc (.cells #[.int .i64 0, .int .i64 0, .int .i64 0, .slice none 0 0, .int .u64 0] 48) := ⟨_, rfl⟩
        have hz2 : w2.heap.size = w.heap.size + 1 + 1 := by rw [hw2]; simp
        have hW := OQ.new w2 (base := w.heap.size + 1 + 1) (by omega) [] (by simp)
        rw [hz2] at hW
        rw [hw2] at hW
        clear hz2 hw2 w2
        have HW := Lib.hid hW
        have HQ3 := Lib.hid fun o1 o2 o3 => by
          have hw : Below w.heap.size w (((w.alloc o1).alloc o2).alloc o3) := (((Below.refl _ _).alloc (Nat.le_refl _) _).alloc (by simp) _).alloc (by simp; omega) _
          exact HR.out.below hw
        clear hk0 hone hkind hnm hW
        go_enter Try.func23, Try.ntmps23
        have H9 : Hid (n ≤ 16) := Lib.hid (by omega)
        go_wp2_with (at_builtin; refine wpList_app_msgs _ rfl _ _ rfl (w.heap.size + 1 + 1) (some ⟨w.heap.size + 1 + 1, 0, none⟩) 0 [] _ rfl rfl HW.out A c q _ rfl HN.out (HQ3.out _ _ _) (by have := H9.out; have := HN.out; simp; omega) (by simp) ?_)
        intro A4 c4 L4 w4 HL4 ho4 hg4
        obtain ⟨w3, hw3⟩ : ∃ w3, w3 = ((w.alloc (.cells #[.int .i64 k, .int .i64 m, .int .i64 s, .slice A n c, .int .u64 li] 48)).alloc (.cells #[.int .i64 0, .int .i64 0, .int .i64 0, .slice none 0 0, .int .u64 0] 48)).alloc (.cells #[] 68) := ⟨_, rfl⟩
        have hz3 : w3.heap.size = w.heap.size + 1 + 1 + 1 := by rw [hw3]; simp
        have hB3 : Below w.heap.size w w3 := by rw [hw3]; exact (((Below.refl _ _).alloc (Nat.le_refl _) _).alloc (by simp) _).alloc (by simp; omega) _
        have hb3 : Blk w3 w.heap.size [.int .i64 k, .int .i64 m, .int .i64 s, .slice A n c, .int .u64 li] := by rw [hw3]; exact ((Blk.new w _ _).alloc _).alloc _
        have hr3 : Blk w3 (w.heap.size + 1) [.int .i64 0, .int .i64 0, .int .i64 0, .slice none 0 0, .int .u64 0] := by
          rw [hw3]
          have := Blk.new (w.alloc (.cells #[.int .i64 k, .int .i64 m, .int .i64 s, .slice A n c, .int .u64 li] 48)) [.int .i64 0, .int .i64 0, .int .i64 0, .slice none 0 0, .int .u64 0] 48
          rw [show (w.alloc (.cells #[.int .i64 k, .int .i64 m, .int .i64 s, .slice A n c, .int .u64 li] 48)).heap.size = w.heap.size + 1 by simp] at this
          exact this.alloc _
        have hg4' : w3.grownBy w4 (some (w.heap.size + 1 + 1)) := by rw [hw3]; exact hg4
        have hb4 := hb3.grown hg4' (by simp; omega)
        have hr4 := hr3.grown hg4' (by simp)
        have hB4 : Below w.heap.size w w4 := hB3.grown hg4' hB3.size (fun k e => by injection e with e; omega)
        have hz4 : w.heap.size + 1 + 1 + 1 ≤ w4.heap.size := by rw [← hz3]; exact hg4'.size
        have HL4' : Hid (L4 = q) := HL4
        have HO4 : Hid (OQ (w4.alloc (.cells #[.string (strB l), .int .u64 now] 68)) (w.heap.size + 1 + 1) A4 c4 L4) := Lib.hid (ho4.alloc _)
        have HQ4 : Hid (RQ (w4.alloc (.cells #[.string (strB l), .int .u64 now] 68)) (w4.alloc (.cells #[.string (strB l), .int .u64 now] 68)).heap.size (some ⟨w4.heap.size, 0, none⟩) [⟨l, now⟩]) := Lib.hid (OQ.new w4 (base := 0) (Nat.zero_le _) [⟨l, now⟩] (by simp)).rq
        have HB4 : Hid (Blk (w4.alloc (.cells #[.string (strB l), .int .u64 now] 68)) w.heap.size [.int .i64 k, .int .i64 m, .int .i64 s, .slice A n c, .int .u64 li]) := Lib.hid (hb4.alloc _)
        have HR4 : Hid (Blk (w4.alloc (.cells #[.string (strB l), .int .u64 now] 68)) (w.heap.size + 1) [.int .i64 0, .int .i64 0, .int .i64 0, .slice none 0 0, .int .u64 0]) := Lib.hid (hr4.alloc _)
        have HBL4 : Hid (Below w.heap.size w (w4.alloc (.cells #[.string (strB l), .int .u64 now] 68))) := Lib.hid (hB4.alloc hB4.size _)
        have HZ4 : Hid (w.heap.size + 1 + 1 ≤ (w4.alloc (.cells #[.string (strB l), .int .u64 now] 68)).heap.size) := Lib.hid (by simp; omega)
        clear HL4 ho4 hg4 hg4' hb4 hr4 hB4 hz4 hb3 hr3 hB3 hz3 hw3 HW HQ3 H2
        go_wp2_with (at_builtin; refine wpList_app_msgs _ rfl _ _ rfl (w.heap.size + 1 + 1) A4 c4 L4 _ rfl rfl HO4.out (some ⟨w4.heap.size, 0, none⟩) 1 [⟨l, now⟩] _ rfl rfl HQ4.out (by have := H9.out; have := HN.out; rw [HL4'.out]; simp; omega) HZ4.out ?_)
        intro A5 c5 L5 w5 HL5 ho5 hg5
        have HL5' : Hid (L5 = q ++ [⟨l, now⟩]) := Lib.hid <| by rw [HL5.out, HL4'.out]
        have hne : ∀ j, A4.map (·.block) = some j → w.heap.size + 1 + 1 ≤ j := fun j hj => (HO4.out.lt j hj).1
        have HB5 : Hid (Blk w5 w.heap.size [.int .i64 k, .int .i64 m, .int .i64 s, .slice A n c, .int .u64 li]) := Lib.hid (HB4.out.grown hg5 (fun e => by have := hne _ e; omega))
        have HR5 : Hid (Blk w5 (w.heap.size + 1) [.int .i64 0, .int .i64 0, .int .i64 0, .slice none 0 0, .int .u64 0]) := Lib.hid (HR4.out.grown hg5 (fun e => by have := hne _ e; omega))
        have HBL5 : Hid (Below w.heap.size w w5) := Lib.hid (HBL4.out.grown hg5 HBL4.out.size (fun j e => by have := hne _ e; omega))
        have HO5 := Lib.hid ho5
        have b0 : w5.cell? ⟨w.heap.size, 0, none⟩ = some (.int .i64 k) := HB5.out.cell rfl
        have b1 : w5.cell? ⟨w.heap.size, 1, none⟩ = some (.int .i64 m) := HB5.out.cell rfl
        have b2 : w5.cell? ⟨w.heap.size, 2, none⟩ = some (.int .i64 s) := HB5.out.cell rfl
        have b3 : w5.cell? ⟨w.heap.size, 3, none⟩ = some (.slice A n c) := HB5.out.cell rfl
        have b4 : w5.cell? ⟨w.heap.size, 4, none⟩ = some (.int .u64 li) := HB5.out.cell rfl
        have f3 : w5.frozen? ⟨w.heap.size, 3, none⟩ = false := HB5.out.free 3
        have r0 : w5.cell? ⟨w.heap.size + 1, 0, none⟩ = some (.int .i64 0) := HR5.out.cell rfl
        have r1 : w5.cell? ⟨w.heap.size + 1, 1, none⟩ = some (.int .i64 0) := HR5.out.cell rfl
        have r2 : w5.cell? ⟨w.heap.size + 1, 2, none⟩ = some (.int .i64 0) := HR5.out.cell rfl
        have r3 : w5.cell? ⟨w.heap.size + 1, 3, none⟩ = some (.slice none 0 0) := HR5.out.cell rfl
        have r4 : w5.cell? ⟨w.heap.size + 1, 4, none⟩ = some (.int .u64 0) := HR5.out.cell rfl
        have fr0 : w5.frozen? ⟨w.heap.size + 1, 0, none⟩ = false := HR5.out.free 0
        have fr1 : w5.frozen? ⟨w.heap.size + 1, 1, none⟩ = false := HR5.out.free 1
        have fr2 : w5.frozen? ⟨w.heap.size + 1, 2, none⟩ = false := HR5.out.free 2
        have fr3 : w5.frozen? ⟨w.heap.size + 1, 3, none⟩ = false := HR5.out.free 3
        have fr4 : w5.frozen? ⟨w.heap.size + 1, 4, none⟩ = false := HR5.out.free 4
        clear HL5 ho5 hg5 hne HB4 HR4 HBL4 HO4 HQ4 HZ4 HL4'
        go_wp2
        clear b0 b1 b2 b3 b4 f3 r0 r1 r2 r3 r4 fr0 fr1 fr2 fr3 fr4 HB5
        obtain ⟨w6, hw6⟩ : ∃ w6, w6 = w5.setCell ⟨w.heap.size, 3, none⟩ (.slice A5 L5.length c5) := ⟨_, rfl⟩
        have hg6 : w5.grownBy w6 (some w.heap.size) := by rw [hw6]; exact grown_setCell _ _ _
        rw [← hw6]
        have hge : ∀ j, A5.map (·.block) = some j → w.heap.size + 1 + 1 ≤ j := fun j hj => (HO5.out.lt j hj).1
        have ho6 : OQ w6 (w.heap.size + 1 + 1) A5 c5 L5 := HO5.out.kept hg6 (.inr fun e => by have := hge _ e; omega)
        have hr6 := HR5.out.grown hg6 (by simp)
        have hb6 : Below w.heap.size w w6 := HBL5.out.grown hg6 HBL5.out.size (fun j e => by injection e with e; omega)
        have hr7 := ((((hr6.setCell 0 (.int .i64 k)).setCell 1 (.int .i64 m)).setCell 2 (.int .i64 s)).setCell 3 (.slice A5 L5.length c5)).setCell 4 (.int .u64 li)
        have hg7 := ((((grown_setCell w6 ⟨w.heap.size + 1, 0, none⟩ (.int .i64 k)).trans (grown_setCell _ ⟨w.heap.size + 1, 1, none⟩ (.int .i64 m))).trans (grown_setCell _ ⟨w.heap.size + 1, 2, none⟩ (.int .i64 s))).trans (grown_setCell _ ⟨w.heap.size + 1, 3, none⟩ (.slice A5 L5.length c5))).trans (grown_setCell _ ⟨w.heap.size + 1, 4, none⟩ (.int .u64 li))
        obtain ⟨w7, hw7⟩ : ∃ w7, w7 = ((((w6.setCell ⟨w.heap.size + 1, 0, none⟩ (.int .i64 k)).setCell ⟨w.heap.size + 1, 1, none⟩ (.int .i64 m)).setCell ⟨w.heap.size + 1, 2, none⟩ (.int .i64 s)).setCell ⟨w.heap.size + 1, 3, none⟩ (.slice A5 L5.length c5)).setCell ⟨w.heap.size + 1, 4, none⟩ (.int .u64 li) := ⟨_, rfl⟩
        rw [← hw7] at hr7 hg7 ⊢
        clear hw6 hw7
        have ho7 : OQ w7 (w.heap.size + 1 + 1) A5 c5 L5 := ho6.kept hg7 (.inr fun e => by have h9 : A5.map (·.block) = some (w.heap.size + 1) := e; have := hge _ h9; omega)
        have hb7 : Below w.heap.size w w7 := hb6.grown hg7 hb6.size (fun j e => by injection e with e; subst e; exact Nat.le_succ _)
        have e0 : w7.cell? ⟨w.heap.size + 1, 0, none⟩ = some (.int .i64 k) := hr7.cell rfl
        have e1 : w7.cell? ⟨w.heap.size + 1, 1, none⟩ = some (.int .i64 m) := hr7.cell rfl
        have e2 : w7.cell? ⟨w.heap.size + 1, 2, none⟩ = some (.int .i64 s) := hr7.cell rfl
        have e3 : w7.cell? ⟨w.heap.size + 1, 3, none⟩ = some (.slice A5 L5.length c5) := hr7.cell rfl
        have e4 : w7.cell? ⟨w.heap.size + 1, 4, none⟩ = some (.int .u64 li) := hr7.cell rfl
        refine bodyPost_ret (v := .tuple #[.agg #[.int .i64 k, .int .i64 m, .int .i64 s, .slice A5 L5.length c5, .int .u64 li], .int .i64 0]) (by simp [results, Try.results23, go_sem, e0, e1, e2, e3, e4]) rfl (retrs HS.out ⟨A5, c5, by rw [hli.out, HL5'.out], by have := ho7.rq; rwa [HL5'.out] at this, by have := ho7.len; rwa [HL5'.out] at this⟩ hb7)
end Go.Proofs.Ytdjphdkoljfndaa
