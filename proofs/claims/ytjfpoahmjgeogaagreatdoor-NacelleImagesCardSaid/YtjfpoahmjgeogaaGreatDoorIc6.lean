/- Bundle 6 of the texts DskM, DskA, DskB, DskC, DskD, DskE, Gl, LaidG, InsOf, ImgLawI, Sm, OpenM. -/
import Derived.Test.YtjfpoahmjgeogaaGreatDoorIc5
import Derived.Test.YtjfpoahmjgeogaaGreatDoorIc4
import Derived.Test.YtjfpoahmjgeogaaGreatDoorIc3
import Derived.Laws.StructEq
import Derived.ChangeKeysEq
import Derived.Test.YtjfpoahmjgeogaaGreatDoorCards
import Derived.Test.YtjfpoahmjgeogaaGreatDoorTie
import Derived.Test.YtjfpoahmjgeogaaGreatDoorIc1
import Derived.Deep.DeepHandedRow
import Derived.Lib.LaidTab
import Derived.LaidHandle
import Derived.Stop.Joined
import Derived.SizedLaws
import Derived.Test.YtjfpoahmjgeogaaGreatDoorIc2
import Derived.WalkKit
import Derived.OpenShut
import Derived.Deep.Slices
import Derived.Deep.Fields
import Derived.Deep.MidRow
/- The disk in memory: its struct, its sectors, the writes that wait, the flags that survive; what changes of it and what it hangs on. -/
namespace Nac.Img
open Go Go.RowKit
def wrc (x : Nat × List UInt8) : List Value := .int .i64 (x.1 : Int) :: x.2.map bv
def pendC (p : List (Nat × List UInt8)) : List Value := (p.map wrc).flatten
def secC (s : List (List UInt8)) : List Value := (s.map (fun x => x.map bv)).flatten
def dcells (bs : Nat) (Ap : Option Addr) (np cp : Nat) (off armed : Bool) (left : Nat) (As : Option Addr) (ns cs : Nat) : List Value :=
  [.slice (some ⟨bs, 0, none⟩) 40 40, .slice Ap np cp, .bool off, .bool armed, .int .i64 (left : Int), .slice As ns cs]
theorem wrc_len (x : Nat × List UInt8) (h : x.2.length = 64) : (wrc x).length = 65 := by simp [wrc, h]
theorem sec_rows (s : List (List UInt8)) (h : ∀ x ∈ s, x.length = 64) : ∀ x ∈ s.map (fun x => x.map bv), x.length = 64 := fun x hx => by
  obtain ⟨y, hy, rfl⟩ := List.mem_map.1 hx
  rw [List.length_map, h y hy]
theorem sec_len (s : List (List UInt8)) (h : ∀ x ∈ s, x.length = 64) : (secC s).length = 64 * s.length := by
  unfold secC
  rw [flatten_len 64 _ (sec_rows s h), List.length_map]
theorem pend_rows (p : List (Nat × List UInt8)) (h : ∀ x ∈ p, x.2.length = 64) : ∀ x ∈ p.map wrc, x.length = 65 := fun x hx => by
  obtain ⟨y, hy, rfl⟩ := List.mem_map.1 hx
  exact wrc_len y (h y hy)
theorem bv_one (l : List UInt8) : ∀ v ∈ l.map bv, v.oneCell' = true := fun v hv => by obtain ⟨z, _, rfl⟩ := List.mem_map.1 hv; rfl
theorem wrc_one (x : Nat × List UInt8) : ∀ v ∈ wrc x, v.oneCell' = true := fun v hv => by
  rcases List.mem_cons.1 hv with rfl | hv
  · rfl
  · exact bv_one _ v hv
end Nac.Img
namespace Nac
open Go Go.RowKit Nac.Img
structure Upd (O : Nat → Prop) (w w' : World) (O' : Nat → Prop) : Prop where
  os : w'.os = w.os
  tape : w'.tape = w.tape
  output : w'.output = w.output
  size : w.heap.size ≤ w'.heap.size
  keep : ∀ k, k < w.heap.size → ¬ O k → w'.heap[k]? = w.heap[k]?
  new : ∀ k, O' k → O k ∨ w.heap.size ≤ k
section
variable {w w' w'' : World} {O O' O'' : Nat → Prop}
theorem Upd.refl (O : Nat → Prop) (w : World) : Upd O w w O := ⟨rfl, rfl, rfl, Nat.le_refl _, fun _ _ _ => rfl, fun _ h => .inl h⟩
theorem Upd.trans (h : Upd O w w' O') (h' : Upd O' w' w'' O'') : Upd O w w'' O'' :=
  ⟨h'.os.trans h.os, h'.tape.trans h.tape, h'.output.trans h.output, Nat.le_trans h.size h'.size, fun k hk hn => (h'.keep k (Nat.lt_of_lt_of_le hk h.size) (fun e => by rcases h.new k e with e | e; exact hn e; omega)).trans (h.keep k hk hn),
   fun k hk => by rcases h'.new k hk with e | e; exact h.new k e; exact .inr (Nat.le_trans h.size e)⟩
theorem Upd.below (h : Below w.heap.size w w') : Upd O w w' O := ⟨h.os, h.tape, h.output, h.size, fun k hk _ => h.block k hk, fun _ h => .inl h⟩
theorem Upd.grown {row : Option Nat} (h : w.grownBy w' row) (hr : ∀ k, row = some k → O k) : Upd O w w' O :=
  ⟨h.os, h.tape, h.output, h.size, fun k hk hn => h.block k hk (fun e => hn (hr k e.symm)), fun _ h => .inl h⟩
theorem Upd.blk {b : Nat} {cs : List Value} (h : Upd O w w' O') (hb : Blk w b cs) (hn : ¬ O b) : Blk w' b cs := hb.keep (h.keep b hb.lt hn)
theorem Upd.out {b : Nat} (h : Upd O w w' O') (hb : b < w.heap.size) (hn : ¬ O b) : ¬ O' b := fun e => by rcases h.new b e with e | e; exact hn e; omega
theorem Upd.cell {p : Addr} (h : Upd O w w' O') (hp : p.block < w.heap.size) (hn : ¬ O p.block) : w'.cell? p = w.cell? p := by
  unfold World.cell?
  rw [h.keep _ hp hn]
theorem Upd.to (h : Upd O w w' O') {O1 : Nat → Prop} (h1 : ∀ k, O1 k → O' k ∨ w.heap.size ≤ k) : Upd O w w' O1 := ⟨h.os, h.tape, h.output, h.size, h.keep, fun k hk => by rcases h1 k hk with e | e; exact h.new k e; exact .inr e⟩
theorem Upd.under {w0 : World} {B : Nat} (h : Upd O w w' O') (h0 : Below B w0 w) (hB : ∀ k, O k → B ≤ k) (hz : B ≤ w.heap.size) : Below B w0 w' :=
  h0.trans ⟨h.os, h.tape, h.output, h.size, fun k hk => h.keep k (by omega) (fun e => by have := hB k e; omega)⟩
theorem Upd.wider (h : Upd O w w' O') (O2 : Nat → Prop) : Upd (fun k => O k ∨ O2 k) w w' (fun k => O' k ∨ O2 k) :=
  ⟨h.os, h.tape, h.output, h.size, fun k hk hn => h.keep k hk (fun e => hn (.inl e)), fun k hk => by rcases hk with e | e; (rcases h.new k e with e | e; exact .inl (.inl e); exact .inr e); exact .inl (.inr e)⟩
end
def RBo (w : World) (A : Option Addr) (l : List Bool) : Prop := l ≠ [] → ∃ g o, A = some ⟨g, o, none⟩ ∧ g < w.heap.size ∧ ∀ j (h : j < l.length), w.cell? ⟨g, o + j, none⟩ = some (.bool l[j])
theorem RBo.nil (w : World) (A : Option Addr) : RBo w A [] := fun h => absurd rfl h
theorem Row.same {w w' : World} {e : TypeId} {size n c : Nat} {A : Option Addr} {xs : List Value} (h : Row w e size A c n xs) (hk : ∀ g, A.map (·.block) = some g → w'.heap[g]? = w.heap[g]?) : Row w' e size A c n xs := by
  refine ⟨h.1, ?_⟩
  rcases h.2 with h | ⟨g, cap, cur, hv, hb, hg, hnc, hcm, hcs, ht⟩
  · exact .inl h
  · refine .inr ⟨g, cap, cur, hv, hb, ?_, hnc, hcm, hcs, ht⟩
    injection hv with h1
    subst h1
    rw [hk g rfl]
    exact hg
theorem Row.range {w : World} {e : TypeId} {size n c : Nat} {A : Option Addr} {xs : List Value} (h : Row w e size A c n xs) {j : Nat} {ys : List Value} (hy : ∃ pre post, xs = pre ++ ys ++ post ∧ pre.length = j) (hne : ys ≠ []) : ∃ g, A = some ⟨g, 0, none⟩ ∧ g < w.heap.size ∧ w.rangeAt g j ys := by
  obtain ⟨pre, post, hx, hp⟩ := hy
  have hpos : 0 < ys.length := List.length_pos_iff.2 hne
  obtain ⟨g, hA, hg, _⟩ := h.at (j := j) (by rw [hx]; simp; omega)
  refine ⟨g, hA, hg, fun i v hi => ?_⟩
  have hil := (List.getElem?_eq_some_iff.1 hi).1
  obtain ⟨g2, hA2, _, hc, _⟩ := h.at (j := j + i) (by rw [hx]; simp; omega)
  rw [hA] at hA2
  injection hA2 with hA2
  injection hA2 with hA2
  subst hA2
  rw [hc]
  have e : xs[j + i]? = some v := by
    rw [hx, List.append_assoc, ← hp, List.getElem?_append_right (by omega), Nat.add_sub_cancel_left, List.getElem?_append_left hil]
    exact hi
  exact (List.getElem?_eq_getElem (by rw [hx]; simp; omega)).symm.trans e
end Nac
namespace Go.Proofs.YtjfpoahmjgeogaaGreatDoor
open Go.RowKit Nac Nac.Img
structure DkI (w : World) (bd bs : Nat) (Ap : Option Addr) (cp : Nat) (As : Option Addr) (cs : Nat) (O : Nat → Prop) (d : Dk) : Prop where
  blk : Blk w bd (dcells bs Ap d.pend.length cp d.off d.armed d.left As d.surv.length cs)
  secs : Blk w bs (secC d.secs)
  pend : Row w 182 65 Ap cp d.pend.length (pendC d.pend)
  pne : ∀ g, Ap.map (·.block) = some g → O g ∧ g ≠ bd ∧ g ≠ bs
  surv : RBo w As d.surv
  sne : ∀ g, As.map (·.block) = some g → O g ∧ g ≠ bd ∧ g ≠ bs ∧ Ap.map (·.block) ≠ some g
  o1 : O bd
  o2 : O bs
  ne : bd ≠ bs
  own : ∀ k, O k → k < w.heap.size
  n40 : d.secs.length = 40
  n64 : ∀ x ∈ d.secs, x.length = 64
  pok : ∀ x ∈ d.pend, x.1 < 40 ∧ x.2.length = 64
  left : d.left < 9223372036854775808
def DkM (w : World) (bd : Nat) (O : Nat → Prop) (d : Dk) : Prop := ∃ bs Ap cp As cs, DkI w bd bs Ap cp As cs O d
section
variable {w w' : World} {bd bs cp cs : Nat} {Ap As : Option Addr} {O : Nat → Prop} {d : Dk}
theorem DkI.same (h : DkI w bd bs Ap cp As cs O d) (hk : ∀ k, O k → w'.heap[k]? = w.heap[k]?) (hs : w.heap.size ≤ w'.heap.size) : DkI w' bd bs Ap cp As cs O d :=
  ⟨h.blk.keep (hk _ h.o1), h.secs.keep (hk _ h.o2), h.pend.same fun g hg => hk g (h.pne g hg).1, h.pne,
   fun hne => by
    obtain ⟨g, o, hA, hg, hc⟩ := h.surv hne
    refine ⟨g, o, hA, by omega, fun j hj => ?_⟩
    rw [← hc j hj]
    unfold World.cell?
    rw [hk g (h.sne g (by rw [hA]; rfl)).1], h.sne, h.o1, h.o2, h.ne, fun k hk' => Nat.lt_of_lt_of_le (h.own k hk') hs, h.n40, h.n64, h.pok, h.left⟩
theorem DkI.below (h : DkI w bd bs Ap cp As cs O d) (hb : Below w.heap.size w w') : DkI w' bd bs Ap cp As cs O d := h.same (fun k hk => hb.block k (h.own k hk)) hb.size
theorem DkI.grown {row : Option Nat} (h : DkI w bd bs Ap cp As cs O d) (hg : w.grownBy w' row) (hr : ∀ k, row = some k → ¬ O k) : DkI w' bd bs Ap cp As cs O d :=
  h.same (fun k hk => hg.block k (h.own k hk) (fun e => hr k e.symm hk)) hg.size
theorem DkI.more (h : DkI w bd bs Ap cp As cs O d) {O' : Nat → Prop} (h1 : ∀ k, O k → O' k) (h2 : ∀ k, O' k → k < w.heap.size) : DkI w bd bs Ap cp As cs O' d :=
  ⟨h.blk, h.secs, h.pend, fun g hg => ⟨h1 g (h.pne g hg).1, (h.pne g hg).2⟩, h.surv, fun g hg => ⟨h1 g (h.sne g hg).1, (h.sne g hg).2⟩, h1 _ h.o1, h1 _ h.o2, h.ne, h2, h.n40, h.n64, h.pok, h.left⟩
theorem DkM.same (h : DkM w bd O d) (hk : ∀ k, O k → w'.heap[k]? = w.heap[k]?) (hs : w.heap.size ≤ w'.heap.size) : DkM w' bd O d := by
  obtain ⟨bs, Ap, cp, As, cs, h⟩ := h
  exact ⟨bs, Ap, cp, As, cs, h.same hk hs⟩
theorem DkM.own (h : DkM w bd O d) : ∀ k, O k → k < w.heap.size := by
  obtain ⟨bs, Ap, cp, As, cs, h⟩ := h
  exact h.own
theorem DkM.below (h : DkM w bd O d) (hb : Below w.heap.size w w') : DkM w' bd O d := h.same (fun k hk => hb.block k (h.own k hk)) hb.size
theorem DkM.upd {O1 O1' : Nat → Prop} (h : DkM w bd O d) (hu : Upd O1 w w' O1') (hn : ∀ k, O k → ¬ O1 k) : DkM w' bd O d := h.same (fun k hk => hu.keep k (h.own k hk) (hn k hk)) hu.size
theorem DkI.remake (h : DkI w bd bs Ap cp As cs O d) (hg : w.grownBy w' (some bd)) {d' : Dk} {Ap' As' : Option Addr} {cp' cs' : Nat} (hb : Blk w' bd (dcells bs Ap' d'.pend.length cp' d'.off d'.armed d'.left As' d'.surv.length cs')) (hsec : d'.secs = d.secs)
    (hp : (Ap' = Ap ∧ cp' = cp ∧ d'.pend = d.pend) ∨ (Ap' = none ∧ cp' = 0 ∧ d'.pend = [])) (hs : (As' = As ∧ cs' = cs ∧ d'.surv = d.surv) ∨ (As' = none ∧ cs' = 0 ∧ d'.surv = [])) (hl : d'.left < 9223372036854775808) : DkI w' bd bs Ap' cp' As' cs' O d' := by
  have hk : ∀ k, O k → k ≠ bd → w'.heap[k]? = w.heap[k]? := fun k hk hne => hg.block k (h.own k hk) (by simp; exact hne)
  have hsame : Row w' 182 65 Ap cp d.pend.length (pendC d.pend) := h.pend.same fun g hgg => hk g (h.pne g hgg).1 (h.pne g hgg).2.1
  have hsv : RBo w' As d.surv := fun hne => by
    obtain ⟨g, o, hA, hlt, hc⟩ := h.surv hne
    refine ⟨g, o, hA, Nat.lt_of_lt_of_le hlt hg.size, fun j hj => ?_⟩
    rw [← hc j hj]
    unfold World.cell?
    rw [hk g (h.sne g (by rw [hA]; rfl)).1 (h.sne g (by rw [hA]; rfl)).2.1]
  refine ⟨hb, by rw [hsec]; exact h.secs.keep (hk bs h.o2 (fun e => h.ne e.symm)), ?_, ?_, ?_, ?_, h.o1, h.o2, h.ne, fun k hk' => Nat.lt_of_lt_of_le (h.own k hk') hg.size, by rw [hsec]; exact h.n40, by rw [hsec]; exact h.n64, ?_, hl⟩
  · rcases hp with ⟨rfl, rfl, e⟩ | ⟨rfl, rfl, e⟩
    · rw [e]; exact hsame
    · rw [e]; exact Row.nil w' _ _
  · rcases hp with ⟨rfl, rfl, e⟩ | ⟨rfl, rfl, e⟩
    · exact h.pne
    · intro g hg'; cases hg'
  · rcases hs with ⟨rfl, rfl, e⟩ | ⟨rfl, rfl, e⟩
    · rw [e]; exact hsv
    · rw [e]; exact RBo.nil _ _
  · rcases hs with ⟨rfl, rfl, e⟩ | ⟨rfl, rfl, e⟩
    · intro g hgg
      refine ⟨(h.sne g hgg).1, (h.sne g hgg).2.1, (h.sne g hgg).2.2.1, ?_⟩
      rcases hp with ⟨rfl, rfl, e⟩ | ⟨rfl, rfl, e⟩
      · exact (h.sne g hgg).2.2.2
      · intro e; cases e
    · intro g hg'; cases hg'
  · rcases hp with ⟨rfl, rfl, e⟩ | ⟨rfl, rfl, e⟩
    · rw [e]; exact h.pok
    · rw [e]; intro x hx; cases hx
theorem DkI.resec (h : DkI w bd bs Ap cp As cs O d) (hg : w.grownBy w' (some bs)) {s : List (List UInt8)} (hb : Blk w' bs (secC s)) (hl : s.length = 40) (h64 : ∀ x ∈ s, x.length = 64) : DkI w' bd bs Ap cp As cs O { d with secs := s } := by
  have hk : ∀ k, O k → k ≠ bs → w'.heap[k]? = w.heap[k]? := fun k hk hne => hg.block k (h.own k hk) (by simp; exact hne)
  refine ⟨h.blk.keep (hk bd h.o1 h.ne), hb, h.pend.same fun g hgg => hk g (h.pne g hgg).1 (h.pne g hgg).2.2, h.pne, fun hne => ?_, h.sne, h.o1, h.o2, h.ne, fun k hk' => Nat.lt_of_lt_of_le (h.own k hk') hg.size, hl, h64, h.pok, h.left⟩
  obtain ⟨g, o, hA, hlt, hc⟩ := h.surv hne
  refine ⟨g, o, hA, Nat.lt_of_lt_of_le hlt hg.size, fun j hj => ?_⟩
  rw [← hc j hj]
  unfold World.cell?
  rw [hk g (h.sne g (by rw [hA]; rfl)).1 (h.sne g (by rw [hA]; rfl)).2.2.1]
theorem DkI.waits (h : DkI w bd bs Ap cp As cs O d) {j : Nat} (hj : j < d.pend.length) : ∃ g, Ap = some ⟨g, 0, none⟩ ∧ g < w.heap.size ∧ g ≠ bd ∧ g ≠ bs ∧ w.rangeAt g (j * 65) (wrc d.pend[j]) := by
  have hr := pend_rows d.pend (fun x hx => (h.pok x hx).2)
  obtain ⟨pre, post, he, hl⟩ := flatten_at 65 (d.pend.map wrc) hr j (by rw [List.length_map]; exact hj)
  rw [List.getElem_map] at he
  obtain ⟨g, hA, hg, hra⟩ := h.pend.range (j := j * 65) ⟨pre, post, he, by omega⟩ (by simp [wrc])
  exact ⟨g, hA, hg, (h.pne g (by rw [hA]; rfl)).2.1, (h.pne g (by rw [hA]; rfl)).2.2, hra⟩
theorem DkI.sec (h : DkI w bd bs Ap cp As cs O d) {p : Nat} (hp : p < 40) : w.rangeAt bs (p * 64) ((d.secs.getD p []).map bv) ∧ (d.secs.getD p []).length = 64 := by
  have hp' : p < d.secs.length := by rw [h.n40]; exact hp
  have e : d.secs.getD p [] = d.secs[p] := by rw [List.getD_eq_getElem?_getD, List.getElem?_eq_getElem hp']; rfl
  obtain ⟨pre, post, he, hl⟩ := flatten_at 64 (d.secs.map (fun x => x.map bv)) (sec_rows d.secs h.n64) p (by rw [List.length_map]; exact hp')
  rw [List.getElem_map] at he
  rw [e]
  exact ⟨h.secs.range _ _ ⟨pre, post, he, by omega⟩, h.n64 _ (List.getElem_mem hp')⟩
end
theorem sec_set (s : List (List UInt8)) (h64 : ∀ x ∈ s, x.length = 64) {p : Nat} (hp : p < s.length) (x : List UInt8) (hx : x.length = 64) : (secC s).take (p * 64) ++ x.map bv ++ (secC s).drop (p * 64 + (x.map bv).length) = secC (s.set p x) := by
  unfold secC
  rw [List.length_map, hx, List.map_set, Nat.mul_comm]
  exact flatten_set 64 _ (sec_rows s h64) p (by rw [List.length_map]; exact hp) _ (by rw [List.length_map, hx])
end Go.Proofs.YtjfpoahmjgeogaaGreatDoor
/- disk: Size, has, disarm, Power. -/
namespace Nac.Img
def Dk.disarm (d : Dk) : Dk := { d with armed := false, left := 0, surv := [] }
end Nac.Img
namespace Go.Proofs.YtjfpoahmjgeogaaGreatDoor
open Go.RowKit Nac Nac.Img
theorem DkI.c0 {w : World} {bd bs cp cs : Nat} {Ap As : Option Addr} {O : Nat → Prop} {d : Dk} (h : DkI w bd bs Ap cp As cs O d) : w.cell? ⟨bd, 0, none⟩ = some (.slice (some ⟨bs, 0, none⟩) 40 40) := h.blk.cell rfl
theorem DkI.c1 {w : World} {bd bs cp cs : Nat} {Ap As : Option Addr} {O : Nat → Prop} {d : Dk} (h : DkI w bd bs Ap cp As cs O d) : w.cell? ⟨bd, 1, none⟩ = some (.slice Ap d.pend.length cp) := h.blk.cell rfl
theorem DkI.c2 {w : World} {bd bs cp cs : Nat} {Ap As : Option Addr} {O : Nat → Prop} {d : Dk} (h : DkI w bd bs Ap cp As cs O d) : w.cell? ⟨bd, 2, none⟩ = some (.bool d.off) := h.blk.cell rfl
theorem DkI.c3 {w : World} {bd bs cp cs : Nat} {Ap As : Option Addr} {O : Nat → Prop} {d : Dk} (h : DkI w bd bs Ap cp As cs O d) : w.cell? ⟨bd, 3, none⟩ = some (.bool d.armed) := h.blk.cell rfl
theorem DkI.c4 {w : World} {bd bs cp cs : Nat} {Ap As : Option Addr} {O : Nat → Prop} {d : Dk} (h : DkI w bd bs Ap cp As cs O d) : w.cell? ⟨bd, 4, none⟩ = some (.int .i64 (d.left : Int)) := h.blk.cell rfl
theorem DkI.c5 {w : World} {bd bs cp cs : Nat} {Ap As : Option Addr} {O : Nat → Prop} {d : Dk} (h : DkI w bd bs Ap cp As cs O d) : w.cell? ⟨bd, 5, none⟩ = some (.slice As d.surv.length cs) := h.blk.cell rfl
set_option maxRecDepth 100000 in
theorem dsize_calls (w : World) (bd : Nat) (O : Nat → Prop) (d : Dk) (h : DkM w bd O d) : Calls Tryz.prog 25 #[.pointer (some ⟨bd, 0, none⟩)] w (fun e w' => e = .returned (.int .i64 40) ∧ w' = w) := by
  obtain ⟨bs, Ap, cp, As, cs, h⟩ := h
  have h0 := h.c0
  clear h
  go_enter Tryz.func25, Tryz.ntmps25
  go_wp2_with fail
  go_ret
  exact ⟨rfl, rfl⟩
set_option maxRecDepth 100000 in
theorem dhas_calls (w : World) (bd : Nat) (O : Nat → Prop) (d : Dk) (p : Nat) (hp : p < 40) (h : DkM w bd O d) : Calls Tryz.prog 95 #[.pointer (some ⟨bd, 0, none⟩), .int .i64 (p : Int)] w (fun e w' => e = .returned (.bool true) ∧ w' = w) := by
  obtain ⟨bs, Ap, cp, As, cs, h⟩ := h
  have h0 := h.c0
  clear h
  have q1 : (p : Int) < 40 := by omega
  have q2 : (0 : Int) ≤ (p : Int) := by omega
  go_enter Tryz.func95, Tryz.ntmps95
  go_wp2_with fail
  go_ret
  exact ⟨by simp, rfl⟩
def RetD (w : World) (bd : Nat) (O : Nat → Prop) (d' : Dk) (v : Value) (e : Ending) (w' : World) : Prop := e = .returned v ∧ DkM w' bd O d' ∧ Upd O w w' O
def RetDN (w : World) (bd : Nat) (O : Nat → Prop) (d' : Dk) (v : Value) (e : Ending) (w' : World) : Prop := e = .returned v ∧ ∃ O', DkM w' bd O' d' ∧ Upd O w w' O'
def RetDI (w : World) (bd bs : Nat) (Ap : Option Addr) (cp : Nat) (As : Option Addr) (cs : Nat) (O : Nat → Prop) (d' : Dk) (e : Ending) (w' : World) : Prop := e = .returned (.tuple #[]) ∧ DkI w' bd bs Ap cp As cs O d' ∧ w.grownBy w' (some bd)
set_option maxRecDepth 100000 in
set_option maxHeartbeats 1000000 in
theorem disarm_calls (w : World) (bd bs : Nat) (Ap : Option Addr) (cp : Nat) (As : Option Addr) (cs : Nat) (O : Nat → Prop) (d : Dk) (h : DkI w bd bs Ap cp As cs O d) : Calls Tryz.prog 38 #[.pointer (some ⟨bd, 0, none⟩)] w (RetDI w bd bs Ap cp none 0 O d.disarm) := by
  have H := Lib.hid h
  clear h
  go_enter Tryz.func38, Tryz.ntmps38
  go_wp2_with ((with_reducible show wpList _ _ _ (Oper.mk _ (Op.store 4 _ _) _ _ _ _ :: _) _ _); refine wpList_storeB rfl 4 _ _ rfl bd 3 _ (.bool false) (by show 3 < 6; decide) rfl rfl H.out.blk (by kernel_rfl) rfl ?_)
  intro w1 hb1 hg1 hs1
  go_wp2_with ((with_reducible show wpList _ _ _ (Oper.mk _ (Op.store 3 _ _) _ _ _ _ :: _) _ _); refine wpList_storeB rfl 3 _ _ rfl bd 4 _ (.int .i64 0) (by show 4 < 6; decide) rfl rfl hb1.out (by kernel_rfl) rfl ?_)
  intro w2 hb2 hg2 hs2
  go_wp2_with ((with_reducible show wpList _ _ _ (Oper.mk _ (Op.store 37 _ _) _ _ _ _ :: _) _ _); refine wpList_storeB rfl 37 _ _ rfl bd 5 _ (.slice none 0 0) (by show 5 < 6; decide) rfl rfl hb2.out (by kernel_rfl) rfl ?_)
  intro w3 hb3 hg3 hs3
  have HG : Hid (w.grownBy w3 (some bd)) := Lib.hid ((hg1.out.trans hg2.out).trans hg3.out)
  have HR : Hid (DkI w3 bd bs Ap cp none 0 O d.disarm) := Lib.hid (H.out.remake HG.out hb3.out rfl (.inl ⟨rfl, rfl, rfl⟩) (.inr ⟨rfl, rfl, rfl⟩) (by show 0 < _; omega))
  clear hb1 hg1 hs1 hb2 hg2 hs2 hb3 hg3 hs3
  go_wp2_with fail
  exact bodyPost_ret (v := .tuple #[]) (by simp [results, Tryz.results38, go_sem]) rfl ⟨rfl, HR.out, HG.out⟩
set_option maxRecDepth 100000 in
set_option maxHeartbeats 1000000 in
theorem power_calls (w : World) (bd : Nat) (O : Nat → Prop) (d : Dk) (h : DkM w bd O d) : Calls Tryz.prog 14 #[.pointer (some ⟨bd, 0, none⟩)] w (RetD w bd O d.power (.tuple #[])) := by
  obtain ⟨bs, Ap, cp, As, cs, h⟩ := h
  have H := Lib.hid h
  clear h
  go_enter Tryz.func14, Tryz.ntmps14
  go_wp2_with ((with_reducible show wpList _ _ _ (Oper.mk _ (Op.store 4 _ _) _ _ _ _ :: _) _ _); refine wpList_storeB rfl 4 _ _ rfl bd 2 _ (.bool false) (by show 2 < 6; decide) rfl rfl H.out.blk (by kernel_rfl) rfl ?_)
  intro w1 hb1 hg1 hs1
  go_wp2_with ((with_reducible show wpList _ _ _ (Oper.mk _ (Op.store 74 _ _) _ _ _ _ :: _) _ _); refine wpList_storeB rfl 74 _ _ rfl bd 1 _ (.slice none 0 0) (by show 1 < 6; decide) rfl rfl hb1.out (by kernel_rfl) rfl ?_)
  intro w2 hb2 hg2 hs2
  have HG : Hid (w.grownBy w2 (some bd)) := Lib.hid (hg1.out.trans hg2.out)
  have HR : Hid (DkI w2 bd bs none 0 As cs O { d with off := false, pend := [] }) := Lib.hid (H.out.remake HG.out hb2.out rfl (.inr ⟨rfl, rfl, rfl⟩) (.inl ⟨rfl, rfl, rfl⟩) H.out.left)
  have HD : Hid (Calls Tryz.prog 38 #[.pointer (some ⟨bd, 0, none⟩)] w2 (RetDI w2 bd bs none 0 none 0 O d.power)) := Lib.hid (disarm_calls w2 bd bs none 0 As cs O _ HR.out)
  have HO : Hid (O bd) := Lib.hid H.out.o1
  clear hb1 hg1 hs1 hb2 hg2 hs2 H HR
  go_wp2_with fail
  go_at_call 38
  with_reducible refine HD.out.mono ?_
  rintro e w3 ⟨rfl, hr3, hg3⟩
  have HR3 : Hid (DkM w3 bd O d.power ∧ Upd O w w3 O) := Lib.hid ⟨⟨_, _, _, _, _, hr3⟩, Upd.grown (HG.out.trans hg3) (fun k e => by injection e with e; rw [← e]; exact HO.out)⟩
  clear hr3 hg3 HD HG HO
  go_wp2_with fail
  exact bodyPost_ret (v := .tuple #[]) (by simp [results, Tryz.results14, go_sem]) rfl ⟨rfl, HR3.out⟩
end Go.Proofs.YtjfpoahmjgeogaaGreatDoor
/- disk: Crash, powered, Flush. -/
namespace Nac.Img
theorem apply_snoc (s : List (List UInt8)) (p : List (Nat × List UInt8)) (w : Nat × List UInt8) : applyP s (p ++ [w]) = (applyP s p).set w.1 w.2 := by
  unfold applyP
  rw [List.foldl_append]
  rfl
theorem take_snoc {X : Type} (l : List X) {k : Nat} (h : k < l.length) : l.take (k + 1) = l.take k ++ [l[k]] := by
  rw [List.take_succ_eq_append_getElem h]
end Nac.Img
namespace Go.Proofs.YtjfpoahmjgeogaaGreatDoor
open Go.RowKit Nac Nac.Img
theorem sWr : SInfo 182 65 := ⟨by kernel_rfl, _, Tryz.underlying182, rfl⟩
theorem sSec : SInfo 180 64 := ⟨by kernel_rfl, _, Tryz.underlying180, rfl⟩
theorem zWr : ((Tryz.prog.info? 182).bind (·.zero)) = some (.agg (wrc (0, List.replicate 64 0)).toArray) := by kernel_rfl
theorem zSec : ((Tryz.prog.info? 180).bind (·.zero)) = some (.agg ((List.replicate 64 (0 : UInt8)).map bv).toArray) := by kernel_rfl
theorem keep_snoc : ∀ (p : List (Nat × List UInt8)) (w : Nat × List UInt8) (l : List Bool), keepP (p ++ [w]) l = keepP p l ++ (if l.getD p.length false = true then [w] else [])
  | [], w, l => by
    show (if l.headD false = true then [w] else []) ++ [] = [] ++ _
    cases l <;> simp
  | x :: p, w, l => by
    show (if l.headD false = true then [x] else []) ++ keepP (p ++ [w]) l.tail = _
    rw [keep_snoc p w l.tail]
    have e : l.tail.getD p.length false = l.getD (x :: p).length false := by cases l <;> simp
    rw [e]
    simp [keepP]
def CrR (w0 : World) (bd bs : Nat) (Ap : Option Addr) (cp : Nat) (As : Option Addr) (cs : Nat) (O : Nat → Prop) (d : Dk) (s : Value) (w : World) : Prop :=
  ∃ k : Nat, k ≤ d.pend.length ∧ s = .int .i64 (k : Int) ∧ DkI w bd bs Ap cp As cs O { d with secs := applyP d.secs (keepP (d.pend.take k) d.surv) } ∧ Upd O w0 w O
set_option maxRecDepth 100000 in
set_option maxHeartbeats 4000000 in
theorem crash_calls (w : World) (bd bs : Nat) (Ap : Option Addr) (cp : Nat) (As : Option Addr) (cs : Nat) (O : Nat → Prop) (d : Dk) (h : DkI w bd bs Ap cp As cs O d) (hoff : d.off = false) (hn : d.pend.length ≤ 1000) (hcs : d.surv.length ≤ 9223372036854775807) :
    Calls Tryz.prog 118 #[.pointer (some ⟨bd, 0, none⟩), .slice As d.surv.length cs] w (RetD w bd O d.crash (.tuple #[])) := by
  have H := Lib.hid h
  have HN := Lib.hid hn
  have HCS := Lib.hid hcs
  have h2 := h.c2
  have h1 := h.c1
  rw [hoff] at h2
  have HOFF := Lib.hid hoff
  clear h hn hcs hoff
  obtain ⟨n, hnn⟩ : ∃ n, n = d.pend.length := ⟨_, rfl⟩
  obtain ⟨m, hmm⟩ : ∃ m, m = d.surv.length := ⟨_, rfl⟩
  have HNN := Lib.hid hnn
  have HMM := Lib.hid hmm
  rw [← hnn] at h1
  rw [← hmm]
  clear hnn hmm
  go_enter Tryz.func118, Tryz.ntmps118
  go_wp2_with fail
  clear h1 h2
  go_loopw [15] (fun s15 wr => CrR w bd bs Ap cp As cs O d s15 wr) (fun s15 _ => n - (intOf s15).toNat)
  case atStart => exact ⟨0, Nat.zero_le _, rfl, H.out, Upd.refl O w⟩
  case round =>
    obtain ⟨k, hk, rfl, hi, hu⟩ := hrel
    have HI := Lib.hid hi
    have HU := Lib.hid hu
    clear hi hu H
    by_cases hlt : k < n
    · have HLT : Hid (k < d.pend.length) := Lib.hid (by rw [← HNN.out]; exact hlt)
      obtain ⟨g, rfl, hg1, hg2, hg3, hra⟩ := HI.out.waits (j := k) HLT.out
      obtain ⟨p, x, hpx⟩ : ∃ p x, d.pend[k]'HLT.out = (p, x) := ⟨_, _, rfl⟩
      have HPX := Lib.hid hpx
      have HRA : Hid (wr.rangeAt g (k * 65) (wrc (p, x))) := Lib.hid (by rw [← hpx]; exact hra)
      have HPO : Hid (p < 40 ∧ x.length = 64) := Lib.hid (by have := HI.out.pok _ (List.getElem_mem HLT.out); rw [hpx] at this; exact this)
      obtain ⟨wl, hwl⟩ : ∃ wl, wl = wrc (p, x) := ⟨_, rfl⟩
      have HWL := Lib.hid hwl
      have HWL65 : Hid (wl.length = 65) := Lib.hid (by rw [hwl, wrc_len _ HPO.out.2])
      rw [← hwl] at HRA
      have HLTN := Lib.hid hlt
      have hk1000 : k < 1000 := by have := HN.out; have := HLT.out; omega
      clear hg1 hg2 hg3 hra hpx hwl
      go_wp2_with first | ((with_reducible show wpList _ _ _ (Oper.mk _ (Op.load 182 _) _ _ _ _ :: _) _ _); refine wpList_loadM sWr rfl _ rfl g (k * 65) wl rfl HRA.out HWL65.out ?_) | ((with_reducible show wpList _ _ _ (Oper.mk (some 5) (Op.alloc 182) _ _ _ _ :: _) _ _); refine wpList_allocS _ zWr rfl rfl ?_; intro w1 hb1 hg1 hs1; have HB1 := Lib.hid hb1; have HG1 := Lib.hid hg1; have HS1 := Lib.hid hs1; clear hb1 hg1 hs1) | ((with_reducible show wpList _ _ _ (Oper.mk _ (Op.store 182 _ _) _ _ _ _ :: _) _ _); refine wpList_storeS sWr rfl _ _ rfl wr.heap.size _ wl rfl rfl HB1.out (by rfl) HWL65.out (by rw [HWL.out]; exact wrc_one _) ?_)
      intro w2 hb2 hg2
      obtain ⟨bw, hbw⟩ : ∃ b, b = wr.heap.size := ⟨_, rfl⟩
      have HBW := Lib.hid hbw
      have HB2 : Hid (Blk w2 bw (wrc (p, x))) := Lib.hid (by rw [hbw, ← HWL.out]; exact hb2)
      have HE2 : Hid (Below wr.heap.size wr w2) := Lib.hid ((gbelow HG1.out).grown hg2 HG1.out.size (fun j e => by injection e with e; omega))
      have HI2 : Hid (DkI w2 bd bs (some ⟨g, 0, none⟩) cp As cs O { d with secs := applyP d.secs (keepP (d.pend.take k) d.surv) }) := Lib.hid (HI.out.below HE2.out)
      have HU2 : Hid (Upd O w w2 O) := Lib.hid (HU.out.trans (Upd.below HE2.out))
      have HKS : Hid (keepP (d.pend.take (k + 1)) d.surv = keepP (d.pend.take k) d.surv ++ (if d.surv.getD k false = true then [(p, x)] else [])) := Lib.hid (by rw [take_snoc _ HLT.out, keep_snoc, List.length_take, Nat.min_eq_left (Nat.le_of_lt HLT.out), HPX.out])
      rw [← hbw]
      clear hb2 hg2 HB1 HG1 HS1 HRA HWL HWL65 HE2 hbw
      by_cases hks : k < m
      · have HKM : Hid (k < d.surv.length) := Lib.hid (by rw [← HMM.out]; exact hks)
        obtain ⟨gs, os, rfl, hgs, hcs⟩ := HI2.out.surv (by intro e; have := HKM.out; rw [show d.surv = [] from e] at this; cases this)
        have hck := hcs k HKM.out
        obtain ⟨b, hb⟩ : ∃ b, b = d.surv[k]'HKM.out := ⟨_, rfl⟩
        have HBE : Hid (d.surv.getD k false = b) := Lib.hid (by rw [hb, List.getD_eq_getElem?_getD, List.getElem?_eq_getElem HKM.out]; rfl)
        rw [show ({ d with secs := applyP d.secs (keepP (d.pend.take k) d.surv) } : Dk).surv[k]'HKM.out = b from hb.symm] at hck
        clear hgs hcs hb
        cases b with
        | true =>
          have HKT : Hid (applyP d.secs (keepP (d.pend.take (k + 1)) d.surv) = (applyP d.secs (keepP (d.pend.take k) d.surv)).set p x) := Lib.hid (by rw [HKS.out, HBE.out, if_pos rfl, apply_snoc])
          obtain ⟨S, hS⟩ : ∃ S, S = applyP d.secs (keepP (d.pend.take k) d.surv) := ⟨_, rfl⟩
          rw [← hS] at HI2 HKT
          obtain ⟨xl, hxl⟩ : ∃ xl, xl = x.map bv := ⟨_, rfl⟩
          have HXL := Lib.hid hxl
          have CS : Hid (∀ w', Below w2.drew.heap.size w2.drew w' → w'.cell? ⟨bd, 0, none⟩ = some (.slice (some ⟨bs, 0, none⟩) 40 40)) := Lib.hid fun w' hb => (HI2.out.below ⟨hb.os, hb.tape, hb.output, hb.size, hb.block⟩).c0
          have CP : Hid (∀ w', Below w2.drew.heap.size w2.drew w' → w'.cell? ⟨bw, 0, none⟩ = some (.int .i64 (p : Int))) := Lib.hid fun w' hb => (HB2.out.keep (hb.block bw HB2.out.lt)).cell rfl
          have CX : Hid (∀ w', Below w2.drew.heap.size w2.drew w' → (Instr.loadAt 180 (.pointer (some ⟨bw, 1, none⟩))).run Tryz.prog w' = .ok (.agg xl.toArray) w') := Lib.hid fun w' hb => run_loadAtM sSec w' bw 1 _ ((HB2.out.keep (hb.block bw HB2.out.lt)).range 1 _ ⟨[.int .i64 (p : Int)], [], by rw [hxl]; simp [wrc], rfl⟩) (by rw [hxl, List.length_map]; exact HPO.out.2)
          have QP : (p : Int) < 40 := by have := HPO.out.1; omega
          clear hS hxl HBE HKS
          go_wp2_with fail
          clear hck
          refine region_tails 8 (fun ix9 => ([.is (.pointer (some ⟨bd, 0, none⟩)), .is (.pointer (some ⟨bd, 0, none⟩)), .is (.pointer (some ⟨bd, 0, none⟩)), .is (.slice (some ⟨bs, 0, none⟩) 40 40), .is (.pointer (some ⟨bw, 0, none⟩)), .is (.int .i64 (p : Int)), .is (.pointer (some ⟨bw, 1, none⟩)), .is (.agg xl.toArray)] : List VD).getD ix9 (.is undef)) [some 30, some 31, some 32, some 33, some 34, some 35, some 36, some 37] (by kernel_rfl) (by kernel_rfl) (by kernel_rfl) (by kernel_rfl) rfl (fun ii hii => ?_) ?_
          · match ii, hii with
            | 0, _ => exact mstep_first rfl (mwant_none rfl) 0 (Or.inl rfl) (by kernel_rfl) (fun _ _ => rfl)
            | 1, _ => exact mstep_pure rfl (mwant_none rfl) (fun aa ww cc => ⟨.pointer (some ⟨bd, 0, none⟩), by have e0 : aa.tmps.getD 30 undef = .pointer (some ⟨bd, 0, none⟩) := cc.slot 0 30 (by kernel_rfl) rfl; simp only [execOp, Act.eval]; go_simp, rfl⟩)
            | 2, _ => exact mstep_pure rfl (mwant_none rfl) (fun aa ww cc => ⟨.pointer (some ⟨bd, 0, none⟩), by have e0 : aa.tmps.getD 31 undef = .pointer (some ⟨bd, 0, none⟩) := cc.slot 1 31 (by kernel_rfl) rfl; simp only [execOp, Act.eval]; go_simp, rfl⟩)
            | 3, _ => exact mstep_pure rfl (mwant_none rfl) (fun aa ww cc => ⟨.slice (some ⟨bs, 0, none⟩) 40 40, by have e0 : aa.tmps.getD 32 undef = .pointer (some ⟨bd, 0, none⟩) := cc.slot 2 32 (by kernel_rfl) rfl; have q := CS.out _ cc.below; simp only [execOp, Act.eval]; go_simp, rfl⟩)
            | 4, _ => exact mstep_pure rfl (mwant_none rfl) (fun aa ww cc => ⟨.pointer (some ⟨bw, 0, none⟩), by have e0 : aa.tmps.getD 5 undef = .pointer (some ⟨bw, 0, none⟩) := (cc.orig 5 (by kernel_rfl)).trans rfl; simp only [execOp, Act.eval]; go_simp, rfl⟩)
            | 5, _ => exact mstep_pure rfl (mwant_none rfl) (fun aa ww cc => ⟨.int .i64 (p : Int), by have e0 : aa.tmps.getD 34 undef = .pointer (some ⟨bw, 0, none⟩) := cc.slot 4 34 (by kernel_rfl) rfl; have q := CP.out _ cc.below; simp only [execOp, Act.eval]; go_simp, rfl⟩)
            | 6, _ => exact mstep_pure rfl (mwant_none rfl) (fun aa ww cc => ⟨.pointer (some ⟨bw, 1, none⟩), by have e0 : aa.tmps.getD 5 undef = .pointer (some ⟨bw, 0, none⟩) := (cc.orig 5 (by kernel_rfl)).trans rfl; simp only [execOp, Act.eval]; go_simp, rfl⟩)
            | 7, _ => exact mstep_loadO rfl (mwant_none rfl) 36 _ rfl 6 (by kernel_rfl) rfl _ _ rfl rfl (fun w hb => CX.out w hb)
            | n + 8, h => exact absurd h (by show ¬ (n + 8 < 8); omega)
          · intro VV w5 hlen hb5 hok
            match VV, hlen with
            | [v0, v1, v2, v3, v4, v5, v6, v7], _ =>
              obtain rfl : v0 = .pointer (some ⟨bd, 0, none⟩) := hok 0 30 rfl
              obtain rfl : v1 = .pointer (some ⟨bd, 0, none⟩) := hok 1 31 rfl
              obtain rfl : v2 = .pointer (some ⟨bd, 0, none⟩) := hok 2 32 rfl
              obtain rfl : v3 = .slice (some ⟨bs, 0, none⟩) 40 40 := hok 3 33 rfl
              obtain rfl : v4 = .pointer (some ⟨bw, 0, none⟩) := hok 4 34 rfl
              obtain rfl : v5 = .int .i64 (p : Int) := hok 5 35 rfl
              obtain rfl : v6 = .pointer (some ⟨bw, 1, none⟩) := hok 6 36 rfl
              obtain rfl : v7 = .agg xl.toArray := hok 7 37 rfl
              have HI5 : Hid (DkI w5 bd bs (some ⟨g, 0, none⟩) cp (some ⟨gs, os, none⟩) cs O { d with secs := S }) := Lib.hid (HI2.out.below ⟨hb5.os, hb5.tape, hb5.output, hb5.size, hb5.block⟩)
              have HU5 : Hid (Upd O w w5 O) := Lib.hid (HU2.out.trans (Upd.below ⟨hb5.os, hb5.tape, hb5.output, hb5.size, hb5.block⟩))
              clear hb5 hok CS CP CX HI2 HU2 HB2
              simp only [List.zip_cons_cons, List.zip_nil_right, putsL]
              go_simp
              go_wp2_with ((with_reducible show wpList _ _ _ (Oper.mk _ (Op.store 180 _ _) _ _ _ _ :: _) _ _); refine wpList_storeM sSec rfl _ _ rfl bs (p * 64) (secC S) xl rfl rfl HI5.out.secs (by rw [sec_len S HI5.out.n64, HI5.out.n40]; have := HPO.out.1; omega) (by rw [HXL.out, List.length_map]; exact HPO.out.2) (by rw [HXL.out]; exact bv_one _) ?_)
              intro w6 hb6 hg6
              have HI6 : Hid (DkI w6 bd bs (some ⟨g, 0, none⟩) cp (some ⟨gs, os, none⟩) cs O { d with secs := S.set p x }) := Lib.hid <| by
                rw [HXL.out, ← List.append_assoc, sec_set S HI5.out.n64 (by rw [HI5.out.n40]; exact HPO.out.1) x HPO.out.2] at hb6
                refine HI5.out.resec hg6 hb6 (by rw [List.length_set]; exact HI5.out.n40) fun y hy => ?_
                rcases List.mem_or_eq_of_mem_set hy with hy | rfl
                · exact HI5.out.n64 y hy
                · exact HPO.out.2
              have HU6 : Hid (Upd O w w6 O) := Lib.hid (HU5.out.trans (Upd.grown hg6 (fun k e => by injection e with e; rw [← e]; exact HI5.out.o2)))
              clear hb6 hg6 HI5 HU5
              go_wp2_with fail
              go_roundw
              case rel => exact ⟨k + 1, HLT.out, by go_num, by rw [HKT.out]; exact HI6.out, HU6.out⟩
              case measure => simp [intOf]; omega
        | false =>
        have HKT : Hid (applyP d.secs (keepP (d.pend.take (k + 1)) d.surv) = applyP d.secs (keepP (d.pend.take k) d.surv)) := Lib.hid (by rw [HKS.out, HBE.out, if_neg (by decide), List.append_nil])
        clear HBE HKS
        go_wp2_with fail
        go_roundw
        case rel => exact ⟨k + 1, HLT.out, by go_num, by rw [HKT.out]; exact HI2.out, HU2.out⟩
        case measure => simp [intOf]; omega
      · have HKT : Hid (applyP d.secs (keepP (d.pend.take (k + 1)) d.surv) = applyP d.secs (keepP (d.pend.take k) d.surv)) := Lib.hid (by
          have hle : d.surv.length ≤ k := by have := HMM.out; omega
          have he : d.surv.getD k false = false := by rw [List.getD_eq_getElem?_getD, List.getElem?_eq_none hle]; rfl
          rw [HKS.out, he, if_neg (by decide), List.append_nil])
        clear HKS
        go_wp2_with fail
        go_roundw
        case rel => exact ⟨k + 1, HLT.out, by go_num, by rw [HKT.out]; exact HI2.out, HU2.out⟩
        case measure => simp [intOf]; omega
    · obtain rfl : k = n := by have := HNN.out; omega
      have HIF : Hid (DkI wr bd bs Ap cp As cs O { d with secs := applyP d.secs (keepP d.pend d.surv) }) := Lib.hid (by have := HI.out; rw [HNN.out, List.take_length] at this; exact this)
      clear HI
      go_wp2_with ((with_reducible show wpList _ _ _ (Oper.mk _ (Op.store 74 _ _) _ _ _ _ :: _) _ _); refine wpList_storeB rfl 74 _ _ rfl bd 1 _ (.slice none 0 0) (by show 1 < 6; decide) rfl rfl HIF.out.blk (by kernel_rfl) rfl ?_)
      intro w1 hb1 hg1 hs1
      go_wp2_with ((with_reducible show wpList _ _ _ (Oper.mk _ (Op.store 4 _ _) _ _ _ _ :: _) _ _); refine wpList_storeB rfl 4 _ _ rfl bd 2 _ (.bool true) (by show 2 < 6; decide) rfl rfl hb1.out (by kernel_rfl) rfl ?_)
      intro w2 hb2 hg2 hs2
      have HG : Hid (wr.grownBy w2 (some bd)) := Lib.hid (hg1.out.trans hg2.out)
      have HR : Hid (DkI w2 bd bs none 0 As cs O { d with secs := applyP d.secs (keepP d.pend d.surv), pend := [], off := true }) := Lib.hid (HIF.out.remake HG.out hb2.out rfl (.inr ⟨rfl, rfl, rfl⟩) (.inl ⟨rfl, rfl, rfl⟩) HIF.out.left)
      have HD : Hid (Calls Tryz.prog 38 #[.pointer (some ⟨bd, 0, none⟩)] w2 (RetDI w2 bd bs none 0 none 0 O d.crash)) := Lib.hid (disarm_calls w2 bd bs none 0 As cs O _ HR.out)
      have HO : Hid (O bd) := Lib.hid HIF.out.o1
      clear hb1 hg1 hs1 hb2 hg2 hs2 HIF HR
      go_wp2_with fail
      go_at_call 38
      with_reducible refine HD.out.mono ?_
      rintro e w3 ⟨rfl, hr3, hg3⟩
      have HR3 : Hid (DkM w3 bd O d.crash ∧ Upd O w w3 O) := Lib.hid ⟨⟨_, _, _, _, _, hr3⟩, HU.out.trans (Upd.grown (HG.out.trans hg3) (fun k e => by injection e with e; rw [← e]; exact HO.out))⟩
      clear hr3 hg3 HD HG HO
      go_wp2_with fail
      exact bodyPost_ret (v := .tuple #[]) (by simp [results, Tryz.results118, go_sem]) rfl ⟨rfl, HR3.out⟩
set_option maxRecDepth 100000 in
set_option maxHeartbeats 4000000 in
theorem powered_calls (w : World) (bd : Nat) (O : Nat → Prop) (d : Dk) (h : DkM w bd O d) (hn : d.pend.length ≤ 1000) (hcs : d.surv.length ≤ 9223372036854775807) :
    Calls Tryz.prog 110 #[.pointer (some ⟨bd, 0, none⟩)] w (RetD w bd O d.powered.2 (.bool d.powered.1)) := by
  obtain ⟨bs, Ap, cp, As, cs, h⟩ := h
  have H := Lib.hid h
  have HN := Lib.hid hn
  have HCS := Lib.hid hcs
  have h2 := h.c2
  clear h hn hcs
  cases hoff : d.off with
  | true =>
    have HP : Hid (RetD w bd O d.powered.2 (.bool d.powered.1) (.returned (.bool false)) w) := Lib.hid (by
      have e : d.powered = (false, d) := by unfold Dk.powered; rw [if_pos hoff]
      rw [e]
      exact ⟨rfl, ⟨bs, Ap, cp, As, cs, H.out⟩, Upd.refl O w⟩)
    rw [hoff] at h2
    clear hoff
    go_enter Tryz.func110, Tryz.ntmps110
    go_wp2_with fail
    go_ret
    exact HP.out
  | false =>
  rw [hoff] at h2
  have h3 := H.out.c3
  cases harm : d.armed with
  | false =>
    have HP : Hid (RetD w bd O d.powered.2 (.bool d.powered.1) (.returned (.bool true)) w) := Lib.hid (by
      have e : d.powered = (true, d) := by unfold Dk.powered; rw [if_neg (by rw [hoff]; decide), if_pos harm]
      rw [e]
      exact ⟨rfl, ⟨bs, Ap, cp, As, cs, H.out⟩, Upd.refl O w⟩)
    rw [harm] at h3
    clear hoff harm
    go_enter Tryz.func110, Tryz.ntmps110
    go_wp2_with fail
    go_ret
    exact HP.out
  | true =>
  rw [harm] at h3
  have h4 := H.out.c4
  have h5 := H.out.c5
  obtain ⟨lf, hlf⟩ : ∃ lf, lf = d.left := ⟨_, rfl⟩
  have HLF := Lib.hid hlf
  rw [← hlf] at h4
  clear hlf
  by_cases hz : lf = 0
  · subst hz
    have HP : Hid (d.powered = (false, d.crash)) := Lib.hid (by unfold Dk.powered; rw [if_neg (by rw [hoff]; decide), if_neg (by rw [harm]; decide), if_pos HLF.out.symm])
    have HC := Lib.hid (crash_calls w bd bs Ap cp As cs O d H.out hoff HN.out HCS.out)
    obtain ⟨m, hm⟩ : ∃ m, m = d.surv.length := ⟨_, rfl⟩
    rw [← hm] at HC h5
    clear hoff harm hm
    rw [show ((0 : Nat) : Int) = 0 from rfl] at h4
    go_enter Tryz.func110, Tryz.ntmps110
    go_wp2_with fail
    go_at_call 118
    with_reducible refine HC.out.mono ?_
    rintro e w3 ⟨rfl, hr3⟩
    have HR3 := Lib.hid hr3
    clear hr3 HC h2 h3 h4 h5
    go_wp2_with fail
    go_ret
    rw [HP.out]
    exact ⟨rfl, HR3.out⟩
  · have HP : Hid (d.powered = (true, { d with left := d.left - 1 })) := Lib.hid (by unfold Dk.powered; rw [if_neg (by rw [hoff]; decide), if_neg (by rw [harm]; decide), if_neg (by rw [← HLF.out]; exact hz)])
    have hlb : lf < 9223372036854775808 := by rw [HLF.out]; exact H.out.left
    have hne : ¬ (lf : Int) = 0 := by omega
    have hwr : IntKind.i64.wrap ((lf : Int) - 1) = (lf : Int) - 1 := by rw [Go.IntWalk.i64_left]; unfold wrap64; omega
    have hpos : 0 < lf := by omega
    clear hoff harm hz
    go_enter Tryz.func110, Tryz.ntmps110
    go_wp2_with ((with_reducible show wpList _ _ _ (Oper.mk _ (Op.store 3 _ _) _ _ _ _ :: _) _ _); refine wpList_storeB rfl 3 _ _ rfl bd 4 _ (.int .i64 ((lf : Int) - 1)) (by show 4 < 6; decide) rfl (by rfl) H.out.blk (by kernel_rfl) rfl ?_)
    intro w1 hb1 hg1 hs1
    have HR3 : Hid (DkM w1 bd O { d with left := d.left - 1 } ∧ Upd O w w1 O) := Lib.hid <| by
      refine ⟨⟨bs, Ap, cp, As, cs, H.out.remake hg1.out ?_ rfl (.inl ⟨rfl, rfl, rfl⟩) (.inl ⟨rfl, rfl, rfl⟩) (by show d.left - 1 < _; have := H.out.left; omega)⟩, Upd.grown hg1.out (fun k e => by injection e with e; rw [← e]; exact H.out.o1)⟩
      have := hb1.out
      have e : ((lf : Int) - 1) = ((d.left - 1 : Nat) : Int) := by have := HLF.out; omega
      rw [e] at this
      exact this
    clear hb1 hg1 hs1 h2 h3 h4 h5
    go_wp2_with fail
    go_ret
    rw [HP.out]
    exact ⟨rfl, HR3.out⟩
def FlR (w0 : World) (bd bs : Nat) (Ap : Option Addr) (cp : Nat) (As : Option Addr) (cs : Nat) (O : Nat → Prop) (d : Dk) (s : Value) (w : World) : Prop :=
  ∃ k : Nat, k ≤ d.pend.length ∧ s = .int .i64 (k : Int) ∧ DkI w bd bs Ap cp As cs O { d with secs := applyP d.secs (d.pend.take k) } ∧ Upd O w0 w O
end Go.Proofs.YtjfpoahmjgeogaaGreatDoor
/- disk: Flush, Write. -/
namespace Nac.Img
theorem powered_pend (d : Dk) : d.powered.2.pend.length ≤ d.pend.length := by
  unfold Dk.powered
  split
  · exact Nat.le_refl _
  split
  · exact Nat.le_refl _
  split
  · exact Nat.zero_le _
  · exact Nat.le_refl _
end Nac.Img
namespace Go.Proofs.YtjfpoahmjgeogaaGreatDoor
open Go.RowKit Nac Nac.Img
def RBn (w : World) (O : Nat → Prop) (A : Option Addr) (l : List UInt8) : Prop := l ≠ [] → ∃ b o, A = some ⟨b, o, none⟩ ∧ b < w.heap.size ∧ ¬ O b ∧ ∀ j (h : j < l.length), w.cell? ⟨b, o + j, none⟩ = some (bv l[j])
theorem RBn.upd {w w' : World} {O O' : Nat → Prop} {A : Option Addr} {l : List UInt8} (h : RBn w O A l) (hu : Upd O w w' O') : RBn w' O' A l := fun hne => by
  obtain ⟨b, o, hA, hb, hn, hc⟩ := h hne
  exact ⟨b, o, hA, Nat.lt_of_lt_of_le hb hu.size, hu.out hb hn, fun j hj => (hu.cell hb hn).trans (hc j hj)⟩
theorem RBn.rb {w : World} {O : Nat → Prop} {A : Option Addr} {l : List UInt8} (h : RBn w O A l) : RB w w.heap.size A l := fun hne => by
  obtain ⟨b, o, hA, hb, hn, hc⟩ := h hne
  exact ⟨b, o, hA, hb, hc⟩
section
variable {ops : Array Oper} {Q : Exit → Act → World → Prop} {R : (Nat → Bool) → World → World → Prop} {D : Nat → LD} {J : (Nat → Bool) → World → Prop} {a0 : Act} {i : Nat} {o : Oper}
theorem lstep_loadI (hrefl : ∀ L w, R L w w) (ho : ops[i]? = some o) (hw : ∀ L a w, LCtx ops R D J a0 i L a w → Region.wanted o (yielded ops a.tmps) = true) (hJ : ∀ L w, J L w → J (upd L i) w) (x : Tmp) (ty : TypeId) (hop : o.op = .load ty (.tmp x))
    (ht : origB ops i x = true) (p r : Value) (hp : a0.tmps.getD x undef = p) (hD : D i = .is r) (hr : ∀ L w, J L w → (Instr.loadAt ty p).run Tryz.prog w = .ok r w) : LStep Tryz.prog ops Q R D J a0 i :=
  lstep_pure hrefl ho hw hJ fun L a w c => by
    have h : a.tmps.getD x undef = p := (c.orig x ht).trans hp
    refine ⟨r, ?_, by rw [hD]; rfl⟩
    simp only [execOp, hop, Act.eval, h]
    rw [Sem.run_bind, hr L w c.world]
    rfl
end
theorem build1_agg {T E : TypeId} {z : Value} {size bytes : Nat} (hu : Tryz.prog.underlying T = some (.slice E)) (hinfo : (Tryz.prog.info? E).map (fun i => (i.zero, i.size, i.bytes)) = some (some z, size, bytes)) (hs : 0 < size) (hsm : size ≤ 1000) (us : List Value) (hl : us.length = size) (w : World) :
    (Instr.buildSlice T 1 #[(0, .agg us.toArray)]).run Tryz.prog w = .ok (.slice (some ⟨w.heap.size, 0, none⟩) 1 1) (w.alloc (.cells us.toArray E)) := by
  obtain ⟨ti, hi, hz, hs1, hb1⟩ := info_parts hinfo
  refine run_buildSlice w _ _ 1 _ _ ti _ hu hi hz (by rw [hs1]; omega) (by rw [hs1]; omega) ?_
  rw [hs1]
  have := Great.fill_whole hs [.agg us.toArray] ((Array.range (1 * size)).map (z.cells[· % z.cells.size]!)) (fun v hv => by rw [List.mem_singleton] at hv; subst hv; simpa [Value.cells] using hl) (by simp)
  simpa [Value.cells] using this
theorem Tryz.infoWr : (Tryz.prog.info? 182).map (fun i => (i.zero, i.size, i.bytes)) = some (some (.agg (wrc (0, List.replicate 64 0)).toArray), 65, 72) := by kernel_rfl
theorem aSec : AInfo 180 5 64 := ⟨by kernel_rfl, by kernel_rfl⟩
set_option maxRecDepth 100000 in
set_option maxHeartbeats 4000000 in
theorem flush_calls (w : World) (bd : Nat) (O : Nat → Prop) (d : Dk) (h : DkM w bd O d) (hn : d.pend.length ≤ 1000) (hcs : d.surv.length ≤ 9223372036854775807) :
    Calls Tryz.prog 89 #[.pointer (some ⟨bd, 0, none⟩)] w (RetD w bd O d.flush.1 (.int .i64 (d.flush.2 : Int))) := by
  have HPW := Lib.hid (powered_calls w bd O d h hn hcs)
  have HN := Lib.hid (Nat.le_trans (powered_pend d) hn)
  clear h hn hcs
  obtain ⟨d1, hd1⟩ : ∃ d1, d1 = d.powered.2 := ⟨_, rfl⟩
  obtain ⟨on, hon⟩ : ∃ on, on = d.powered.1 := ⟨_, rfl⟩
  have HF : Hid (d.flush = if on = true then ({ d1 with secs := applyP d1.secs d1.pend, pend := [] }, 0) else (d1, 9)) := Lib.hid (by rw [hd1, hon]; rfl)
  rw [← hd1, ← hon] at HPW
  rw [← hd1] at HN
  clear hd1 hon
  cases on with
  | false =>
    go_enter Tryz.func89, Tryz.ntmps89
    go_wp2_with fail
    go_at_call 110
    with_reducible refine HPW.out.mono ?_
    rintro e w1 ⟨rfl, hr1⟩
    have HR1 := Lib.hid hr1
    clear hr1 HPW
    go_wp2_with fail
    go_ret
    rw [HF.out]
    exact ⟨rfl, HR1.out⟩
  | true =>
  go_enter Tryz.func89, Tryz.ntmps89
  go_wp2_with fail
  go_at_call 110
  with_reducible refine HPW.out.mono ?_
  rintro e w1 ⟨rfl, hr1, hu1⟩
  obtain ⟨bs, Ap, cp, As, cs, h⟩ := hr1
  have H := Lib.hid h
  have HU1 := Lib.hid hu1
  have h1 := h.c1
  clear h hu1 HPW
  obtain ⟨n, hnn⟩ : ∃ n, n = d1.pend.length := ⟨_, rfl⟩
  have HNN := Lib.hid hnn
  rw [← hnn] at h1
  clear hnn
  go_wp2_with fail
  clear h1
  go_loopw [13] (fun s13 wr => FlR w bd bs Ap cp As cs O d1 s13 wr) (fun s13 _ => n - (intOf s13).toNat)
  case atStart => exact ⟨0, Nat.zero_le _, rfl, H.out, HU1.out⟩
  case round =>
    obtain ⟨k, hk, rfl, hi, hu⟩ := hrel
    have HI := Lib.hid hi
    have HU := Lib.hid hu
    clear hi hu H HU1
    by_cases hlt : k < n
    · have HLT : Hid (k < d1.pend.length) := Lib.hid (by rw [← HNN.out]; exact hlt)
      obtain ⟨g, rfl, hg1, hg2, hg3, hra⟩ := HI.out.waits (j := k) HLT.out
      obtain ⟨p, x, hpx⟩ : ∃ p x, d1.pend[k]'HLT.out = (p, x) := ⟨_, _, rfl⟩
      have HPX := Lib.hid hpx
      have HRA : Hid (wr.rangeAt g (k * 65) (wrc (p, x))) := Lib.hid (by rw [← hpx]; exact hra)
      have HPO : Hid (p < 40 ∧ x.length = 64) := Lib.hid (by have := HI.out.pok _ (List.getElem_mem HLT.out); rw [hpx] at this; exact this)
      obtain ⟨wl, hwl⟩ : ∃ wl, wl = wrc (p, x) := ⟨_, rfl⟩
      have HWL := Lib.hid hwl
      have HWL65 : Hid (wl.length = 65) := Lib.hid (by rw [hwl, wrc_len _ HPO.out.2])
      rw [← hwl] at HRA
      have HLTN := Lib.hid hlt
      have hk1000 : k < 1000 := by have := HN.out; have := HLT.out; omega
      clear hg1 hg2 hg3 hra hpx hwl
      go_wp2_with first | ((with_reducible show wpList _ _ _ (Oper.mk _ (Op.load 182 _) _ _ _ _ :: _) _ _); refine wpList_loadM sWr rfl _ rfl g (k * 65) wl rfl HRA.out HWL65.out ?_) | ((with_reducible show wpList _ _ _ (Oper.mk (some 4) (Op.alloc 182) _ _ _ _ :: _) _ _); refine wpList_allocS _ zWr rfl rfl ?_; intro w1 hb1 hg1 hs1; have HB1 := Lib.hid hb1; have HG1 := Lib.hid hg1; have HS1 := Lib.hid hs1; clear hb1 hg1 hs1) | ((with_reducible show wpList _ _ _ (Oper.mk _ (Op.store 182 _ _) _ _ _ _ :: _) _ _); refine wpList_storeS sWr rfl _ _ rfl wr.heap.size _ wl rfl rfl HB1.out (by rfl) HWL65.out (by rw [HWL.out]; exact wrc_one _) ?_)
      intro w2 hb2 hg2
      obtain ⟨bw, hbw⟩ : ∃ b, b = wr.heap.size := ⟨_, rfl⟩
      have HB2 : Hid (Blk w2 bw (wrc (p, x))) := Lib.hid (by rw [hbw, ← HWL.out]; exact hb2)
      have HE2 : Hid (Below wr.heap.size wr w2) := Lib.hid ((gbelow HG1.out).grown hg2 HG1.out.size (fun j e => by injection e with e; omega))
      have HI2 : Hid (DkI w2 bd bs (some ⟨g, 0, none⟩) cp As cs O { d1 with secs := applyP d1.secs (d1.pend.take k) }) := Lib.hid (HI.out.below HE2.out)
      have HU2 : Hid (Upd O w w2 O) := Lib.hid (HU.out.trans (Upd.below HE2.out))
      have HKT : Hid (applyP d1.secs (d1.pend.take (k + 1)) = (applyP d1.secs (d1.pend.take k)).set p x) := Lib.hid (by rw [take_snoc _ HLT.out, apply_snoc, HPX.out])
      obtain ⟨S, hS⟩ : ∃ S, S = applyP d1.secs (d1.pend.take k) := ⟨_, rfl⟩
      rw [← hS] at HI2 HKT
      obtain ⟨xl, hxl⟩ : ∃ xl, xl = x.map bv := ⟨_, rfl⟩
      have HXL := Lib.hid hxl
      have CS : Hid (∀ w', Below w2.drew.heap.size w2.drew w' → w'.cell? ⟨bd, 0, none⟩ = some (.slice (some ⟨bs, 0, none⟩) 40 40)) := Lib.hid fun w' hb => (HI2.out.below ⟨hb.os, hb.tape, hb.output, hb.size, hb.block⟩).c0
      have CP : Hid (∀ w', Below w2.drew.heap.size w2.drew w' → w'.cell? ⟨bw, 0, none⟩ = some (.int .i64 (p : Int))) := Lib.hid fun w' hb => (HB2.out.keep (hb.block bw HB2.out.lt)).cell rfl
      have CX : Hid (∀ w', Below w2.drew.heap.size w2.drew w' → (Instr.loadAt 180 (.pointer (some ⟨bw, 1, none⟩))).run Tryz.prog w' = .ok (.agg xl.toArray) w') := Lib.hid fun w' hb => run_loadAtM sSec w' bw 1 _ ((HB2.out.keep (hb.block bw HB2.out.lt)).range 1 _ ⟨[.int .i64 (p : Int)], [], by rw [hxl]; simp [wrc], rfl⟩) (by rw [hxl, List.length_map]; exact HPO.out.2)
      have QP : (p : Int) < 40 := by have := HPO.out.1; omega
      rw [← hbw]
      clear hb2 hg2 HB1 HG1 HS1 HRA HWL HWL65 HE2 hbw hS hxl
      go_wp2_with fail
      refine region_tails 8 (fun ix9 => ([.is (.pointer (some ⟨bd, 0, none⟩)), .is (.pointer (some ⟨bd, 0, none⟩)), .is (.pointer (some ⟨bd, 0, none⟩)), .is (.slice (some ⟨bs, 0, none⟩) 40 40), .is (.pointer (some ⟨bw, 0, none⟩)), .is (.int .i64 (p : Int)), .is (.pointer (some ⟨bw, 1, none⟩)), .is (.agg xl.toArray)] : List VD).getD ix9 (.is undef)) [some 17, some 18, some 19, some 20, some 21, some 22, some 23, some 24] (by kernel_rfl) (by kernel_rfl) (by kernel_rfl) (by kernel_rfl) rfl (fun ii hii => ?_) ?_
      · match ii, hii with
        | 0, _ => exact mstep_first rfl (mwant_none rfl) 0 (Or.inl rfl) (by kernel_rfl) (fun _ _ => rfl)
        | 1, _ => exact mstep_pure rfl (mwant_none rfl) (fun aa ww cc => ⟨.pointer (some ⟨bd, 0, none⟩), by have e0 : aa.tmps.getD 17 undef = .pointer (some ⟨bd, 0, none⟩) := cc.slot 0 17 (by kernel_rfl) rfl; simp only [execOp, Act.eval]; go_simp, rfl⟩)
        | 2, _ => exact mstep_pure rfl (mwant_none rfl) (fun aa ww cc => ⟨.pointer (some ⟨bd, 0, none⟩), by have e0 : aa.tmps.getD 18 undef = .pointer (some ⟨bd, 0, none⟩) := cc.slot 1 18 (by kernel_rfl) rfl; simp only [execOp, Act.eval]; go_simp, rfl⟩)
        | 3, _ => exact mstep_pure rfl (mwant_none rfl) (fun aa ww cc => ⟨.slice (some ⟨bs, 0, none⟩) 40 40, by have e0 : aa.tmps.getD 19 undef = .pointer (some ⟨bd, 0, none⟩) := cc.slot 2 19 (by kernel_rfl) rfl; have q := CS.out _ cc.below; simp only [execOp, Act.eval]; go_simp, rfl⟩)
        | 4, _ => exact mstep_pure rfl (mwant_none rfl) (fun aa ww cc => ⟨.pointer (some ⟨bw, 0, none⟩), by have e0 : aa.tmps.getD 4 undef = .pointer (some ⟨bw, 0, none⟩) := (cc.orig 4 (by kernel_rfl)).trans rfl; simp only [execOp, Act.eval]; go_simp, rfl⟩)
        | 5, _ => exact mstep_pure rfl (mwant_none rfl) (fun aa ww cc => ⟨.int .i64 (p : Int), by have e0 : aa.tmps.getD 21 undef = .pointer (some ⟨bw, 0, none⟩) := cc.slot 4 21 (by kernel_rfl) rfl; have q := CP.out _ cc.below; simp only [execOp, Act.eval]; go_simp, rfl⟩)
        | 6, _ => exact mstep_pure rfl (mwant_none rfl) (fun aa ww cc => ⟨.pointer (some ⟨bw, 1, none⟩), by have e0 : aa.tmps.getD 4 undef = .pointer (some ⟨bw, 0, none⟩) := (cc.orig 4 (by kernel_rfl)).trans rfl; simp only [execOp, Act.eval]; go_simp, rfl⟩)
        | 7, _ => exact mstep_loadO rfl (mwant_none rfl) 23 _ rfl 6 (by kernel_rfl) rfl _ _ rfl rfl (fun w hb => CX.out w hb)
        | n + 8, h => exact absurd h (by show ¬ (n + 8 < 8); omega)
      · intro VV w5 hlen hb5 hok
        match VV, hlen with
        | [v0, v1, v2, v3, v4, v5, v6, v7], _ =>
          obtain rfl : v0 = .pointer (some ⟨bd, 0, none⟩) := hok 0 17 rfl
          obtain rfl : v1 = .pointer (some ⟨bd, 0, none⟩) := hok 1 18 rfl
          obtain rfl : v2 = .pointer (some ⟨bd, 0, none⟩) := hok 2 19 rfl
          obtain rfl : v3 = .slice (some ⟨bs, 0, none⟩) 40 40 := hok 3 20 rfl
          obtain rfl : v4 = .pointer (some ⟨bw, 0, none⟩) := hok 4 21 rfl
          obtain rfl : v5 = .int .i64 (p : Int) := hok 5 22 rfl
          obtain rfl : v6 = .pointer (some ⟨bw, 1, none⟩) := hok 6 23 rfl
          obtain rfl : v7 = .agg xl.toArray := hok 7 24 rfl
          have HI5 : Hid (DkI w5 bd bs (some ⟨g, 0, none⟩) cp As cs O { d1 with secs := S }) := Lib.hid (HI2.out.below ⟨hb5.os, hb5.tape, hb5.output, hb5.size, hb5.block⟩)
          have HU5 : Hid (Upd O w w5 O) := Lib.hid (HU2.out.trans (Upd.below ⟨hb5.os, hb5.tape, hb5.output, hb5.size, hb5.block⟩))
          clear hb5 hok CS CP CX HI2 HU2 HB2
          simp only [List.zip_cons_cons, List.zip_nil_right, putsL]
          go_simp
          go_wp2_with ((with_reducible show wpList _ _ _ (Oper.mk _ (Op.store 180 _ _) _ _ _ _ :: _) _ _); refine wpList_storeM sSec rfl _ _ rfl bs (p * 64) (secC S) xl rfl rfl HI5.out.secs (by rw [sec_len S HI5.out.n64, HI5.out.n40]; have := HPO.out.1; omega) (by rw [HXL.out, List.length_map]; exact HPO.out.2) (by rw [HXL.out]; exact bv_one _) ?_)
          intro w6 hb6 hg6
          have HI6 : Hid (DkI w6 bd bs (some ⟨g, 0, none⟩) cp As cs O { d1 with secs := S.set p x }) := Lib.hid <| by
            rw [HXL.out, ← List.append_assoc, sec_set S HI5.out.n64 (by rw [HI5.out.n40]; exact HPO.out.1) x HPO.out.2] at hb6
            refine HI5.out.resec hg6 hb6 (by rw [List.length_set]; exact HI5.out.n40) fun y hy => ?_
            rcases List.mem_or_eq_of_mem_set hy with hy | rfl
            · exact HI5.out.n64 y hy
            · exact HPO.out.2
          have HU6 : Hid (Upd O w w6 O) := Lib.hid (HU5.out.trans (Upd.grown hg6 (fun k e => by injection e with e; rw [← e]; exact HI5.out.o2)))
          clear hb6 hg6 HI5 HU5
          go_wp2_with fail
          go_roundw
          case rel => exact ⟨k + 1, HLT.out, by go_num, by rw [HKT.out]; exact HI6.out, HU6.out⟩
          case measure => simp [intOf]; omega
    · obtain rfl : k = n := by have := HNN.out; omega
      have HIF : Hid (DkI wr bd bs Ap cp As cs O { d1 with secs := applyP d1.secs d1.pend }) := Lib.hid (by have := HI.out; rw [HNN.out, List.take_length] at this; exact this)
      clear HI
      go_wp2_with ((with_reducible show wpList _ _ _ (Oper.mk _ (Op.store 74 _ _) _ _ _ _ :: _) _ _); refine wpList_storeB rfl 74 _ _ rfl bd 1 _ (.slice none 0 0) (by show 1 < 6; decide) rfl rfl HIF.out.blk (by kernel_rfl) rfl ?_)
      intro w1 hb1 hg1 hs1
      have HR : Hid (DkM w1 bd O { d1 with secs := applyP d1.secs d1.pend, pend := [] } ∧ Upd O w w1 O) := Lib.hid ⟨⟨_, _, _, _, _, HIF.out.remake hg1.out hb1.out rfl (.inr ⟨rfl, rfl, rfl⟩) (.inl ⟨rfl, rfl, rfl⟩) HIF.out.left⟩, HU.out.trans (Upd.grown hg1.out (fun k e => by injection e with e; rw [← e]; exact HIF.out.o1))⟩
      clear hb1 hg1 hs1
      go_wp2_with fail
      go_ret
      rw [HF.out]
      exact ⟨rfl, HR.out⟩
end Go.Proofs.YtjfpoahmjgeogaaGreatDoor
/- disk: Write, Read. -/
namespace Go.Proofs.YtjfpoahmjgeogaaGreatDoor
open Go.RowKit Nac Nac.Img
theorem bld_wr (p : Int) : Value.agg (Tryz.zeroCells182.setIfInBounds 0 (.int .i64 p)) = .agg (.int .i64 p :: (List.replicate 64 (0 : UInt8)).map bv : List Value).toArray := by kernel_rfl
set_option maxRecDepth 100000 in
set_option maxHeartbeats 4000000 in
theorem dwrite_calls (w : World) (bd : Nat) (O : Nat → Prop) (d : Dk) (p : Nat) (A : Option Addr) (c : Nat) (x : List UInt8) (h : DkM w bd O d) (hp : p < 40) (hx : x.length = 64) (hA : RBn w O A x) (hn : d.pend.length ≤ 900) (hcs : d.surv.length ≤ 9223372036854775807) :
    Calls Tryz.prog 88 #[.pointer (some ⟨bd, 0, none⟩), .int .i64 (p : Int), .slice A 64 c] w (RetDN w bd O (d.write p x).1 (.int .i64 ((d.write p x).2 : Int))) := by
  have HPW := Lib.hid (powered_calls w bd O d h (by omega) hcs)
  have HHS := Lib.hid (dhas_calls w bd O d p hp h)
  have HN := Lib.hid (Nat.le_trans (powered_pend d) hn)
  have HP := Lib.hid hp
  have HX := Lib.hid hx
  have HA := Lib.hid hA
  clear h hn hcs hp hx hA
  obtain ⟨d1, hd1⟩ : ∃ d1, d1 = d.powered.2 := ⟨_, rfl⟩
  obtain ⟨on, hon⟩ : ∃ on, on = d.powered.1 := ⟨_, rfl⟩
  have HF : Hid (d.write p x = if on = true then ({ d1 with pend := d1.pend ++ [(p, x)] }, 0) else (d1, 9)) := Lib.hid (by rw [hd1, hon]; rfl)
  rw [← hd1, ← hon] at HPW
  rw [← hd1] at HN
  clear hd1 hon
  go_enter Tryz.func88, Tryz.ntmps88
  go_wp2_with fail
  go_at_call 95
  with_reducible refine HHS.out.mono ?_
  rintro e w0 ⟨rfl, rfl⟩
  clear HHS
  cases on with
  | false =>
    go_wp2_with fail
    go_at_call 110
    with_reducible refine HPW.out.mono ?_
    rintro e w1 ⟨rfl, hr1, hu1⟩
    have HR1 := Lib.hid hr1
    have HU1 := Lib.hid hu1
    clear hr1 hu1 HPW
    go_wp2_with fail
    go_ret
    rw [HF.out]
    exact ⟨rfl, O, HR1.out, HU1.out⟩
  | true =>
  go_wp2_with fail
  go_at_call 110
  with_reducible refine HPW.out.mono ?_
  rintro e w1 ⟨rfl, hr1, hu1⟩
  obtain ⟨bs, Ap, cp, As, cs, hi1⟩ := hr1
  have HI1 := Lib.hid hi1
  have HU1 := Lib.hid hu1
  have HA1 := Lib.hid (HA.out.upd hu1)
  clear hi1 hu1 HPW
  obtain ⟨sb, so, rfl, hsb, hsn, hsc⟩ := HA1.out (by intro e; have := HX.out; rw [e] at this; cases this)
  have HSC : Hid (sb < w1.heap.size ∧ ∀ j (h : j < x.length), w1.cell? ⟨sb, so + j, none⟩ = some (bv x[j])) := Lib.hid ⟨hsb, hsc⟩
  clear hsb hsn hsc HA HA1
  obtain ⟨zl, hzl⟩ : ∃ zl, zl = (.int .i64 (p : Int) :: (List.replicate 64 (0 : UInt8)).map bv : List Value) := ⟨_, rfl⟩
  have HZY : Hid (Value.agg (Tryz.zeroCells182.setIfInBounds 0 (.int .i64 (p : Int))) = .agg zl.toArray) := Lib.hid (by rw [hzl]; exact bld_wr (p : Int))
  have HZL := Lib.hid hzl
  have HZL65 : Hid (zl.length = 65) := Lib.hid (by rw [hzl]; rfl)
  have HZ1 : Hid (∀ v ∈ zl, v.oneCell' = true) := Lib.hid (by
    rw [hzl]
    intro v hv
    rcases List.mem_cons.1 hv with e | hv
    · rw [e]; rfl
    · exact bv_one _ v hv)
  clear hzl
  go_wp2_with first | ((with_reducible show wpList _ _ _ (Oper.mk (some 7) (Op.alloc 182) _ _ _ _ :: _) _ _); refine wpList_allocS _ zWr rfl rfl ?_; intro w2 hb2 hg2 hs2; have HB2 := Lib.hid hb2; have HG2 := Lib.hid hg2; have HS2 := Lib.hid hs2; clear hb2 hg2 hs2) | ((with_reducible show wpList _ _ _ (Oper.mk _ (Op.store 182 _ _) _ _ _ _ :: _) _ _); refine wpList_storeS sWr rfl _ _ rfl w1.heap.size _ zl rfl (by exact HZY.out) HB2.out (by rfl) HZL65.out HZ1.out ?_)
  intro w3 hb3 hg3
  obtain ⟨bw, hbw⟩ : ∃ b, b = w1.heap.size := ⟨_, rfl⟩
  have HBW := Lib.hid hbw
  have HB3 : Hid (Blk w3 bw zl) := Lib.hid (by rw [hbw]; exact hb3)
  have HE3 : Hid (Below w1.heap.size w1 w3) := Lib.hid ((gbelow HG2.out).grown hg3 HG2.out.size (fun j e => by injection e with e; omega))
  have HON : Hid (∀ k, O k → k < bw) := Lib.hid (by rw [hbw]; exact HI1.out.own)
  rw [← hbw]
  clear hb3 hg3 HB2 HG2 HS2 hbw HZY
  obtain ⟨vs, hvs⟩ : ∃ vs, vs = x.map bv := ⟨_, rfl⟩
  have HVS := Lib.hid hvs
  have HVL : Hid (vs.length = 64) := Lib.hid (by rw [hvs, List.length_map]; exact HX.out)
  clear hvs
  go_wp2_with first | ((with_reducible show wpList _ _ _ (Oper.mk _ (Op.slice 180 _ none none none) _ _ _ _ :: _) _ _); refine wpList_arrAll aSec (by decide) rfl _ rfl bw 1 rfl ?_) | ((with_reducible show wpList _ _ _ (Oper.mk _ (Op.call (Call.mk (Callee.builtin Builtin.copy) _ _)) _ _ _ _ :: _) _ _); refine wpList_copyB rfl _ _ rfl bw 1 64 64 zl sb so 64 c vs rfl rfl HB3.out (by rw [HVL.out]; rfl) (by rw [HVL.out, HZL65.out]; decide) (by intro j v hj; obtain ⟨h1, h2⟩ := List.getElem?_eq_some_iff.1 hj; have h3 := HVL.out; have h5 := HX.out; have h6 := HSC.out.2 j (by omega); rw [(HE3.out.cell (p := ⟨sb, so + j, none⟩) HSC.out.1), h6, ← h2]; simp only [HVS.out, List.getElem_map]) (by rw [HVS.out]; exact bv_one _) ?_)
  intro w6 hb6 hg6
  obtain ⟨wl, hwl⟩ : ∃ wl, wl = wrc (p, x) := ⟨_, rfl⟩
  have HWL := Lib.hid hwl
  have QWL65 : Hid (wl.length = 65) := Lib.hid (by rw [hwl, wrc_len _ HX.out])
  have QU1 : Hid (∀ u ∈ wl, u.oneCell' = true) := Lib.hid (by rw [hwl]; exact wrc_one _)
  have HB6 : Hid (Blk w6 bw wl) := Lib.hid <| by
    have := hb6.out
    have e : zl.take 1 ++ vs ++ zl.drop (1 + vs.length) = wl := by
      rw [HVL.out, List.drop_of_length_le (by rw [HZL65.out]; decide), HZL.out, hwl, HVS.out]
      simp [wrc]
    rw [← e]
    simpa only [List.append_assoc] using this
  have HE6 : Hid (Below w1.heap.size w1 w6) := Lib.hid (HE3.out.grown hg6.out HE3.out.size (fun j e => by injection e with e; have := HBW.out; omega))
  have HI6 : Hid (DkI w6 bd bs Ap cp As cs O d1) := Lib.hid (HI1.out.below HE6.out)
  have HU6 : Hid (Upd O w0 w6 O) := Lib.hid (HU1.out.trans (Upd.below HE6.out))
  rw [HVL.out]
  clear hb6 hg6 hwl HB3 HE3 HSC HVL HVS HZL HZL65 HI1 HU1
  obtain ⟨np, hnp⟩ : ∃ n, n = d1.pend.length := ⟨_, rfl⟩
  obtain ⟨XS, hxs⟩ : ∃ XS, XS = pendC d1.pend := ⟨_, rfl⟩
  have HNP : Hid (np ≤ 900) := Lib.hid (by rw [hnp]; exact HN.out)
  have HXS := Lib.hid hxs
  have HNE := Lib.hid hnp
  have QR : Hid (Row w6 182 65 Ap cp np XS) := Lib.hid (by rw [hnp, hxs]; exact HI6.out.pend)
  have HROW : Hid (∀ k, Ap.map (·.block) = some k → k < w6.heap.size) := Lib.hid fun k hk => HI6.out.own k (HI6.out.pne k hk).1
  have C1 : Hid (∀ w', w6.grownBy w' (Ap.map (·.block)) → w'.cell? ⟨bd, 1, none⟩ = some (.slice Ap np cp)) := Lib.hid fun w' hg => by
    rw [hnp]
    exact (HI6.out.blk.grown hg (fun e => (HI6.out.pne bd e).2.1 rfl)).cell rfl
  have CW : Hid (∀ w', w6.grownBy w' (Ap.map (·.block)) → (Instr.loadAt 182 (.pointer (some ⟨bw, 0, none⟩))).run Tryz.prog w' = .ok (.agg wl.toArray) w') := Lib.hid fun w' hg => run_loadAtM sWr w' bw 0 _ ((HB6.out.grown hg (fun e => by
    have h2 := HON.out bw (HI6.out.pne bw e).1
    omega)).range 0 _ ⟨[], [], by simp, rfl⟩) QWL65.out
  clear hnp hxs
  go_wp2_with fail
  refine region_relL 8 (AppR (Ap.map (·.block)) 7) (fun ix9 => ([.is (.pointer (some ⟨bd, 0, none⟩)), .is (.pointer (some ⟨bd, 0, none⟩)), .is (.pointer (some ⟨bd, 0, none⟩)), .is (.pointer (some ⟨bd, 1, none⟩)), .is (.slice Ap np cp), .is (.agg wl.toArray), .pr (BuiltN w6 wl), .pr (AppedN w6 182 65 Ap np XS wl)] : List LD).getD ix9 (.is undef)) [some 24, some 25, some 26, some 27, some 28, some 29, some 30, some 31] (AppJ w6 (Ap.map (·.block)) 7) (fun ii hii => ?_) (AppR.refl _ 7) (by kernel_rfl) (by kernel_rfl) (by kernel_rfl) (by kernel_rfl) rfl (AppJ.start w6 _ 7) (fun ii hii => ?_) ?_
  · match ii, hii with
    | 0, _ => exact LD.keeps_is _ _ _
    | 1, _ => exact LD.keeps_is _ _ _
    | 2, _ => exact LD.keeps_is _ _ _
    | 3, _ => exact LD.keeps_is _ _ _
    | 4, _ => exact LD.keeps_is _ _ _
    | 5, _ => exact LD.keeps_is _ _ _
    | 6, _ => exact keep_builtN 6 _ HROW.out
    | 7, _ => exact keep_appedN _ _ _ _ _ _
    | n + 8, h => exact absurd h (by show ¬ (n + 8 < 8); omega)
  · match ii, hii with
    | 0, _ => exact lstep_first (AppR.refl _ 7) rfl (lwant_none rfl) (AppJ.pure (by decide)) 0 (Or.inl rfl) (by kernel_rfl) (fun _ => rfl)
    | 1, _ => exact lstep_first (AppR.refl _ 7) rfl (lwant_none rfl) (AppJ.pure (by decide)) 0 (Or.inl rfl) (by kernel_rfl) (fun _ => rfl)
    | 2, _ => exact lstep_pure (AppR.refl _ 7) rfl (lwant_none rfl) (AppJ.pure (by decide)) (fun LL aa ww cc => ⟨.pointer (some ⟨bd, 0, none⟩), by have e0 : aa.tmps.getD 25 undef = .pointer (some ⟨bd, 0, none⟩) := cc.slot 1 25 (by kernel_rfl) rfl; simp only [execOp, Act.eval]; go_simp, rfl⟩)
    | 3, _ => exact lstep_pure (AppR.refl _ 7) rfl (lwant_none rfl) (AppJ.pure (by decide)) (fun LL aa ww cc => ⟨.pointer (some ⟨bd, 1, none⟩), by have e0 : aa.tmps.getD 26 undef = .pointer (some ⟨bd, 0, none⟩) := cc.slot 2 26 (by kernel_rfl) rfl; simp only [execOp, Act.eval]; go_simp, rfl⟩)
    | 4, _ => exact lstep_pure (AppR.refl _ 7) rfl (lwant_none rfl) (AppJ.pure (by decide)) (fun LL aa ww cc => ⟨.slice Ap np cp, by have e0 : aa.tmps.getD 27 undef = .pointer (some ⟨bd, 1, none⟩) := cc.slot 3 27 (by kernel_rfl) rfl; have q := C1.out _ cc.world.1; simp only [execOp, Act.eval]; go_simp, rfl⟩)
    | 5, _ => exact lstep_loadI ((AppR.refl _ 7)) rfl (lwant_none rfl) (AppJ.pure (by decide)) 7 _ rfl (by kernel_rfl) _ _ rfl rfl (fun _ w hb => CW.out w hb.1)
    | 6, _ => exact lstep_buildN (by decide) rfl (lwant_none rfl) 29 rfl wl (fun w => build1_agg Tryz.underlying74 Tryz.infoWr (by decide) (by decide) wl QWL65.out w) (fun LL aa ww cc => cc.slot 5 29 (by kernel_rfl) rfl) rfl
    | 7, _ => exact lstep_appN Tryz.underlying74 Tryz.infoWr (by kernel_rfl) (by decide) (by decide) rfl (lwant_none rfl) 28 30 rfl Ap cp np XS wl rfl QR.out QWL65.out QU1.out (by have := HNP.out; omega) (fun LL aa ww cc => cc.slot 4 28 (by kernel_rfl) rfl) (fun LL aa ww cc => cc.slot 6 30 (by kernel_rfl) rfl) rfl
    | n + 8, h => exact absurd h (by show ¬ (n + 8 < 8); omega)
  · intro L9 VV w5 hall hlen hJ5 hok
    match VV, hlen with
    | [v0, v1, v2, v3, v4, v5, v6, v7], _ =>
      obtain rfl : v0 = .pointer (some ⟨bd, 0, none⟩) := hok 0 24 rfl
      obtain rfl : v1 = .pointer (some ⟨bd, 0, none⟩) := hok 1 25 rfl
      obtain rfl : v2 = .pointer (some ⟨bd, 0, none⟩) := hok 2 26 rfl
      obtain rfl : v3 = .pointer (some ⟨bd, 1, none⟩) := hok 3 27 rfl
      obtain rfl : v4 = .slice Ap np cp := hok 4 28 rfl
      obtain rfl : v5 = .agg wl.toArray := hok 5 29 rfl
      have p6 := hok 6 30 rfl
      have p7 := hok 7 31 rfl
      have p7' : AppedN w6 182 65 Ap np XS wl v7 w5 := p7
      obtain ⟨A2, c2, rfl, hrow, hnb⟩ := p7'
      have HG5 : Hid (w6.grownBy w5 (Ap.map (·.block))) := Lib.hid hJ5.1
      have HB5 : Hid (Blk w5 bd (dcells bs Ap np cp d1.off d1.armed d1.left As d1.surv.length cs)) := Lib.hid (by rw [HNE.out]; exact HI6.out.blk.grown hJ5.1 (fun e => (HI6.out.pne bd e).2.1 rfl))
      have HR5 := Lib.hid hrow
      have HNB : Hid (∀ g, A2.map (·.block) = some g → (O g ∨ w6.heap.size ≤ g) ∧ g ≠ bd ∧ g ≠ bs ∧ As.map (·.block) ≠ some g) := Lib.hid fun g hg => by
        rcases hnb with e | e
        · have h1 := HI6.out.pne g (e.symm.trans hg)
          exact ⟨.inl h1.1, h1.2.1, h1.2.2, fun ea => (HI6.out.sne g ea).2.2.2 (e.symm.trans hg)⟩
        · have h1 := e g hg
          have h2 := HI6.out.own bd HI6.out.o1
          have h3 := HI6.out.own bs HI6.out.o2
          exact ⟨.inr h1, by omega, by omega, fun ea => by have := HI6.out.own g (HI6.out.sne g ea).1; omega⟩
      clear p6 p7 hrow hnb hJ5 hok hall C1 CW QR HROW
      simp only [List.zip_cons_cons, List.zip_nil_right, putsL]
      go_simp
      go_wp2_with ((with_reducible show wpList _ _ _ (Oper.mk _ (Op.store 74 _ _) _ _ _ _ :: _) _ _); refine wpList_storeB rfl 74 _ _ rfl bd 1 _ (.slice A2 (np + 1) c2) (by show 1 < 6; decide) rfl rfl HB5.out (by kernel_rfl) rfl ?_)
      intro w7 hb7 hg7 hs7
      have HM7 : Hid (DkM w7 bd (fun k => O k ∨ A2.map (·.block) = some k) { d1 with pend := d1.pend ++ [(p, x)] }) := Lib.hid <| by
        have hk : ∀ k, O k → k ≠ bd → Ap.map (·.block) ≠ some k → w7.heap[k]? = w6.heap[k]? := fun k hk h1 h2 => (hg7.out.block k (Nat.lt_of_lt_of_le (HI6.out.own k hk) HG5.out.size) (by simp; exact h1)).trans (HG5.out.block k (HI6.out.own k hk) (fun e => h2 e.symm))
        refine ⟨bs, A2, c2, As, cs, ⟨?_, ?_, ?_, ?_, ?_, ?_, .inl HI6.out.o1, .inl HI6.out.o2, HI6.out.ne, ?_, HI6.out.n40, HI6.out.n64, ?_, HI6.out.left⟩⟩
        · have := hb7.out
          show Blk w7 bd (dcells bs A2 (d1.pend ++ [(p, x)]).length c2 d1.off d1.armed d1.left As d1.surv.length cs)
          rw [List.length_append, ← HNE.out]
          exact this
        · exact HI6.out.secs.keep (hk bs HI6.out.o2 (fun e => HI6.out.ne e.symm) (fun e => (HI6.out.pne bs e).2.2 rfl))
        · have h1 := HR5.out.kept hg7.out (by
            cases hA : A2.map (·.block) with
            | none => exact .inl rfl
            | some g => exact .inr fun e => (HNB.out g hA).2.1 (by injection e))
          show Row w7 _ 65 A2 c2 (d1.pend ++ [(p, x)]).length (pendC (d1.pend ++ [(p, x)]))
          rw [List.length_append, ← HNE.out]
          have e : pendC (d1.pend ++ [(p, x)]) = XS ++ wl := by rw [HXS.out, HWL.out]; unfold pendC; simp
          rw [e]
          exact h1
        · intro g hg
          exact ⟨.inr hg, (HNB.out g hg).2.1, (HNB.out g hg).2.2.1⟩
        · intro hne
          obtain ⟨g, o, hA, hlt, hc⟩ := HI6.out.surv hne
          have h1 := HI6.out.sne g (by rw [hA]; rfl)
          refine ⟨g, o, hA, Nat.lt_of_lt_of_le hlt (Nat.le_trans HG5.out.size hg7.out.size), fun j hj => ?_⟩
          rw [← hc j hj]
          unfold World.cell?
          rw [hk g h1.1 h1.2.1 h1.2.2.2]
        · intro g hg
          have h1 := HI6.out.sne g hg
          exact ⟨.inl h1.1, h1.2.1, h1.2.2.1, fun e => (HNB.out g e).2.2.2 hg⟩
        · intro k hk
          rcases hk with hk | hk
          · exact Nat.lt_of_lt_of_le (HI6.out.own k hk) (Nat.le_trans HG5.out.size hg7.out.size)
          · exact Nat.lt_of_lt_of_le (HR5.out.lt k hk) hg7.out.size
        · intro y hy
          rcases List.mem_append.1 hy with hy | hy
          · exact HI6.out.pok y hy
          · rw [List.mem_singleton] at hy
            subst hy
            exact ⟨HP.out, HX.out⟩
      have HU7 : Hid (Upd O w0 w7 (fun k => O k ∨ A2.map (·.block) = some k)) := Lib.hid <| by
        have h1 : Upd O w6 w5 O := Upd.grown HG5.out (fun k e => (HI6.out.pne k e).1)
        have h2 : Upd O w5 w7 O := Upd.grown hg7.out (fun k e => by injection e with e; rw [← e]; exact HI6.out.o1)
        refine HU6.out.trans ((h1.trans h2).to fun k hk => ?_)
        rcases hk with hk | hk
        · exact .inl hk
        · exact (HNB.out k hk).1
      clear hb7 hg7 hs7 HB5 HG5 HR5 HNB HI6 HU6
      go_wp2_with fail
      go_ret
      rw [HF.out]
      exact ⟨rfl, _, HM7.out, HU7.out⟩
end Go.Proofs.YtjfpoahmjgeogaaGreatDoor
/- disk: Read, New, Arm. -/
namespace Nac.Img
def Dk.zero : Dk := ⟨List.replicate 40 zeroS, [], false, false, 0, []⟩
def Dk.arm (d : Dk) (n : Int) (k : List Bool) : Dk := if d.off = true then d else if n < 0 then d.disarm else { d with armed := true, left := n.toNat, surv := k }
end Nac.Img
namespace Go.Proofs.YtjfpoahmjgeogaaGreatDoor
open Go.RowKit Nac Nac.Img
def RetDr (w : World) (x : List UInt8) (e : Ending) (w' : World) : Prop := ∃ b, e = .returned (.tuple #[.slice (some ⟨b, 0, none⟩) 64 64, .int .i64 0]) ∧ w.heap.size ≤ b ∧ Blk w' b (x.map bv) ∧ x.length = 64 ∧ Below w.heap.size w w'
set_option maxRecDepth 100000 in
set_option maxHeartbeats 4000000 in
theorem dread_calls (w : World) (bd : Nat) (O : Nat → Prop) (d : Dk) (p : Nat) (h : DkM w bd O d) (hp : p < 40) (hoff : d.off = false) (hpd : d.pend = []) :
    Calls Tryz.prog 75 #[.pointer (some ⟨bd, 0, none⟩), .int .i64 (p : Int)] w (RetDr w (d.secs.getD p [])) := by
  have HHS := Lib.hid (dhas_calls w bd O d p hp h)
  obtain ⟨bs, Ap, cp, As, cs, h⟩ := h
  have H := Lib.hid h
  have HP := Lib.hid hp
  have h0 := h.c0
  have h1 := h.c1
  have h2 := h.c2
  rw [hoff] at h2
  rw [hpd, List.length_nil] at h1
  obtain ⟨x, hx⟩ : ∃ x, x = d.secs.getD p [] := ⟨_, rfl⟩
  obtain ⟨xl, hxl⟩ : ∃ xl, xl = x.map bv := ⟨_, rfl⟩
  have HRA : Hid (w.rangeAt bs (p * 64) xl ∧ xl.length = 64) := Lib.hid (by rw [hxl, hx, List.length_map]; exact h.sec hp)
  have HXL := Lib.hid hxl
  rw [← hx]
  have q1 : (p : Int) < 40 := by omega
  clear h hp hoff hpd hx hxl
  go_enter Tryz.func75, Tryz.ntmps75
  go_wp2_with fail
  go_at_call 95
  with_reducible refine HHS.out.mono ?_
  rintro e w0 ⟨rfl, rfl⟩
  clear HHS
  go_wp2_with first | ((with_reducible show wpList _ _ _ (Oper.mk _ (Op.load 180 _) _ _ _ _ :: _) _ _); refine wpList_loadM sSec rfl _ rfl bs (p * 64) xl rfl HRA.out.1 HRA.out.2 ?_) | ((with_reducible show wpList _ _ _ (Oper.mk (some 6) (Op.alloc 180) _ _ _ _ :: _) _ _); refine wpList_allocS _ zSec rfl rfl ?_; intro w1 hb1 hg1 hs1; have HB1 := Lib.hid hb1; have HG1 := Lib.hid hg1; have HS1 := Lib.hid hs1; clear hb1 hg1 hs1) | ((with_reducible show wpList _ _ _ (Oper.mk _ (Op.store 180 _ _) _ _ _ _ :: _) _ _); refine wpList_storeS sSec rfl _ _ rfl w0.heap.size _ xl rfl rfl HB1.out (by rfl) HRA.out.2 (by rw [HXL.out]; exact bv_one _) ?_)
  intro w2 hb2 hg2
  have HB2 := Lib.hid hb2
  have HE2 : Hid (Below w0.heap.size w0 w2) := Lib.hid ((gbelow HG1.out).grown hg2 HG1.out.size (fun j e => by injection e with e; omega))
  have h3 : w2.cell? ⟨bd, 1, none⟩ = some (.slice Ap 0 cp) := (HE2.out.cell (p := ⟨bd, 1, none⟩) H.out.blk.lt).trans h1
  clear hb2 hg2 HB1 HG1 HS1 h0 h1 h2
  go_wp2_with fail
  go_loopw [29] (fun s wr => s = .int .i64 0 ∧ wr = w2) (fun _ _ => 0)
  case atStart => exact ⟨rfl, rfl⟩
  case round =>
    obtain ⟨rfl, rfl⟩ := hrel
    go_wp2_with ((with_reducible show wpList _ _ _ (Oper.mk _ (Op.slice 180 _ none none none) _ _ _ _ :: _) _ _); refine wpList_arrAll aSec (by decide) rfl _ rfl w0.heap.size 0 rfl ?_)
    go_ret2
    exact ⟨_, rfl, Nat.le_refl _, by rw [← HXL.out]; exact HB2.out, by have := HRA.out.2; rw [HXL.out, List.length_map] at this; exact this, HE2.out⟩
theorem Tryz.infoSec : (Tryz.prog.info? 180).map (fun i => (i.zero, i.size, i.bytes)) = some (some (.agg ((List.replicate 64 (0 : UInt8)).map bv).toArray), 64, 64) := by kernel_rfl
theorem secs_zero : (madeCells (Value.agg ((List.replicate 64 (0 : UInt8)).map bv).toArray).cells (40 * 64)).toList = secC (List.replicate 40 zeroS) := by
  have e : (Value.agg ((List.replicate 64 (0 : UInt8)).map bv).toArray).cells = (List.replicate 64 (bv 0)).toArray := by rw [List.map_replicate]; rfl
  rw [e, madeEq _ 64 _ (by decide)]
  unfold secC zeroS
  rw [List.map_replicate, List.map_replicate, List.flatten_replicate_replicate]
def RetNewD (w : World) (e : Ending) (w' : World) : Prop := ∃ bd O, e = .returned (.tuple #[.pointer (some ⟨bd, 0, none⟩), .int .i64 0]) ∧ DkM w' bd O Dk.zero ∧ (∀ k, O k → w.heap.size ≤ k) ∧ Below w.heap.size w w'
set_option maxRecDepth 100000 in
set_option maxHeartbeats 4000000 in
theorem dnew_calls (w : World) : Calls Tryz.prog 4 #[.int .i64 40] w (RetNewD w) := by
  go_enter Tryz.func4, Tryz.ntmps4
  go_wp2_with ((with_reducible show wpList _ _ _ (Oper.mk _ (Op.makeSlice _ _ _) _ _ _ _ :: _) _ _); refine wpList_makeC Tryz.underlying73 Tryz.infoSec rfl _ _ rfl 40 (by decide) (by decide) _ secs_zero rfl rfl ?_)
  intro w1 hb1 hg1 hs1
  obtain ⟨bs, hbs⟩ : ∃ b, b = w.heap.size := ⟨_, rfl⟩
  have HB1 := Lib.hid hb1
  have HG1 := Lib.hid hg1
  have HN1 : Hid (bs = w.heap.size ∧ w1.heap.size = bs + 1) := Lib.hid ⟨hbs, by omega⟩
  rw [← hbs] at HB1 ⊢
  clear hb1 hg1 hs1 hbs
  go_wp2_with ((with_reducible show wpList _ _ _ (Oper.mk _ (Op.box 76 _) _ _ _ _ :: _) _ _); refine wpList_boxS rfl _ rfl (dcells bs none 0 0 false false 0 none 0 0) (by rfl) ?_)
  intro w2 hb2 hg2 hs2
  have HR : Hid (DkM w2 w1.heap.size (fun k => k = bs ∨ k = w1.heap.size) Dk.zero ∧ Below w.heap.size w w2) := Lib.hid <| by
    have h1 := HN1.out
    have hb1 : Blk w2 bs (secC (List.replicate 40 zeroS)) := HB1.out.grown hg2 (by simp)
    refine ⟨⟨bs, none, 0, none, 0, ⟨hb2, hb1, Row.nil _ _ _, fun g hg => (by cases hg), RBo.nil _ _, fun g hg => (by cases hg), .inr rfl, .inl rfl, by omega, ?_, rfl, ?_, fun x hx => by (cases hx), by show 0 < _; omega⟩⟩, (gbelow HG1.out).trans ((gbelow hg2).mono (by omega))⟩
    · intro k hk
      have := hs2
      rcases hk with rfl | rfl <;> omega
    · intro x hx
      rw [show Dk.zero.secs = List.replicate 40 zeroS from rfl] at hx
      rw [List.eq_of_mem_replicate hx]
      rfl
  clear hb2 hg2 hs2 HB1 HG1
  go_wp2_with fail
  go_ret2
  exact ⟨_, _, rfl, HR.out.1, fun k hk => by have := HN1.out; rcases hk with rfl | rfl <;> omega, HR.out.2⟩
theorem Tryz.infoBl : (Tryz.prog.info? 4).map (fun i => (i.zero, i.size, i.bytes)) = some (some (.bool false), 1, 1) := by kernel_rfl
theorem build0_bool (w : World) : (Instr.buildSlice 37 0 #[]).run Tryz.prog w = .ok (.slice (some ⟨w.heap.size, 0, none⟩) 0 0) (w.alloc (.cells #[] 4)) := by
  obtain ⟨ti, hi, hz, hs1, hb1⟩ := info_parts Tryz.infoBl
  have hu := Tryz.underlying37
  have hc1 : (sizeOf 4).run Tryz.prog w = .ok 1 w := by simp [sizeOf, typeInfo, hi, hs1]
  have e : (Array.map (fun _ : Nat => (default : Value)) (Array.range 0)) = #[] := by kernel_rfl
  have hn : (newRow 4 #[]).run Tryz.prog w = .ok ⟨w.heap.size, 0, none⟩ (w.alloc (.cells #[] 4)) := by simp [newRow]
  simp only [Instr.buildSlice, Sem.run_bind, run_underlying hu, Result.andThen_ok, hc1]
  simp [Instr.fill, e, hn]
theorem eqIn_nil {T e : TypeId} (hu : Tryz.prog.underlying T = some (.slice e)) (w : World) (d : Nat) (A : Option Addr) (n c : Nat) : (Op.equalIn (d + 1) T (.slice A n c) (.slice none 0 0)).run Tryz.prog w = .ok A.isNone w := by
  cases A <;> simp [Op.equalIn, run_underlying hu]
theorem run_eqnil {T e : TypeId} (hu : Tryz.prog.underlying T = some (.slice e)) (p q : Operand) (A : Option Addr) (n c : Nat) (w : World) : (do eqGuard .eql T p q (.slice A n c) (.slice none 0 0); binOp .eql T (.slice A n c) (.slice none 0 0) : Sem Value).run Tryz.prog w = .ok (.bool A.isNone) w := by
  have h : (Op.equal T (.slice A n c) (.slice none 0 0)).run Tryz.prog w = .ok A.isNone w := eqIn_nil hu w 9999 A n c
  simp [eqGuard, binOp, h]
theorem DkI.resurv {w w' : World} {bd bs cp cs cs' : Nat} {Ap As A' : Option Addr} {O : Nat → Prop} {d : Dk} (h : DkI w bd bs Ap cp As cs O d) (hg : w.grownBy w' (some bd)) {l : List Bool} (hb : Blk w' bd (dcells bs Ap d.pend.length cp d.off d.armed d.left A' l.length cs')) (hA : RBo w A' l) (hn : ∀ g, A'.map (·.block) = some g → ¬ O g ∧ g < w.heap.size) :
    DkI w' bd bs Ap cp A' cs' (fun k => O k ∨ A'.map (·.block) = some k) { d with surv := l } := by
  have hk : ∀ k, k < w.heap.size → k ≠ bd → w'.heap[k]? = w.heap[k]? := fun k hk hne => hg.block k hk (by simp; exact hne)
  refine ⟨hb, h.secs.keep (hk bs (h.own _ h.o2) (fun e => h.ne e.symm)), h.pend.same fun g hgg => hk g (h.own _ (h.pne g hgg).1) (h.pne g hgg).2.1, fun g hgg => ⟨.inl (h.pne g hgg).1, (h.pne g hgg).2⟩, fun hne => ?_, fun g hgg => ?_, .inl h.o1, .inl h.o2, h.ne, fun k hk' => ?_, h.n40, h.n64, h.pok, h.left⟩
  · obtain ⟨g, o, hA', hlt, hc⟩ := hA hne
    have h1 := hn g (by rw [hA']; rfl)
    refine ⟨g, o, hA', Nat.lt_of_lt_of_le hlt hg.size, fun j hj => ?_⟩
    rw [← hc j hj]
    unfold World.cell?
    rw [hk g hlt (fun e => h1.1 (e ▸ h.o1))]
  · have h1 := hn g hgg
    exact ⟨.inr hgg, fun e => h1.1 (e ▸ h.o1), fun e => h1.1 (e ▸ h.o2), fun e => h1.1 (h.pne g e).1⟩
  · rcases hk' with hk' | hk'
    · exact Nat.lt_of_lt_of_le (h.own k hk') hg.size
    · exact Nat.lt_of_lt_of_le (hn k hk').2 hg.size
def RetCl (w : World) (l : List Bool) (e : Ending) (w' : World) : Prop := ∃ A' c', e = .returned (.slice A' l.length c') ∧ RBo w' A' l ∧ (∀ g, A'.map (·.block) = some g → w.heap.size ≤ g ∧ g < w'.heap.size) ∧ Below w.heap.size w w'
theorem row_rbo {w : World} {T : TypeId} {A : Option Addr} {c n : Nat} {l : List Bool} (h : Row w T 1 A c n (l.map .bool)) : RBo w A l := fun hne => by
  have hpos : 0 < l.length := List.length_pos_iff.2 hne
  obtain ⟨g, hA, hg, _⟩ := h.at (j := 0) (by simpa using hpos)
  refine ⟨g, 0, hA, hg, fun j hj => ?_⟩
  obtain ⟨g2, hA2, _, hc, _⟩ := h.at (j := j) (by simpa using hj)
  rw [hA] at hA2
  injection hA2 with hA2
  injection hA2 with hA2
  subst hA2
  rw [Nat.zero_add, hc]
  simp
set_option maxRecDepth 100000 in
set_option maxHeartbeats 4000000 in
theorem clonebl_calls (w : World) (A : Option Addr) (c : Nat) (l : List Bool) (h : RBo w A l) (hc : A = none → c = 0) (hl : l.length ≤ 140737488351232) : Calls Tryz.prog 39 #[.slice A l.length c] w (RetCl w l) := by
  have H := Lib.hid h
  have HL := Lib.hid hl
  obtain ⟨n, hn⟩ : ∃ n, n = l.length := ⟨_, rfl⟩
  have HN := Lib.hid hn
  rw [← hn]
  clear h hl hn
  cases A with
  | none =>
    have hl0 : l = [] := Classical.byContradiction fun hne => by obtain ⟨g, o, hA, _⟩ := H.out hne; cases hA
    have hc0 := hc rfl
    subst hl0
    have hn0 : n = 0 := HN.out
    subst hn0 hc0
    go_enter Tryz.func39, Tryz.ntmps39
    go_wp2_with ((with_reducible show wpList _ _ _ (Oper.mk _ (Op.binOp BinOp.eql 37 _ _ _) _ _ _ _ :: _) _ _); refine wpList_binV (by rfl) _ _ _ _ _ rfl (.bool true) (by exact run_eqnil Tryz.underlying37 _ _ none 0 0 _) ?_)
    go_ret
    exact ⟨none, 0, rfl, RBo.nil _ _, fun g hg => (by cases hg), Below.refl _ _⟩
  | some ad =>
  clear hc
  have hb0 := build0_bool
  have HS0 : Hid (Src (w.alloc (.cells #[] 4)) (some ad) (l.map .bool)) := Lib.hid fun hne => by
    obtain ⟨g, o, hA, hg, hcc⟩ := H.out (by rintro rfl; exact hne rfl)
    injection hA with hA
    subst hA
    refine ⟨_, rfl, fun j u hj => ?_⟩
    obtain ⟨h1, h2⟩ := List.getElem?_eq_some_iff.1 hj
    rw [List.length_map] at h1
    rw [Addr.add_mid, ← h2, List.getElem_map, ← hcc j h1]
    exact ((Below.refl w.heap.size w).alloc (Nat.le_refl _) _).cell hg
  go_enter Tryz.func39, Tryz.ntmps39
  go_wp2_with first | ((with_reducible show wpList _ _ _ (Oper.mk _ (Op.binOp BinOp.eql 37 _ _ _) _ _ _ _ :: _) _ _); refine wpList_binV (by rfl) _ _ _ _ _ rfl (.bool false) (by exact run_eqnil Tryz.underlying37 _ _ (some ad) n c _) ?_) | ((with_reducible show wpList _ _ _ (Oper.mk _ (Op.call (Call.mk (Callee.builtin Builtin.append) _ _)) _ _ _ _ :: _) _ _); refine wpList_app _ rfl _ _ 37 rfl w.heap.size 4 _ 1 1 Tryz.underlying37 Tryz.infoBl rfl (by decide) (some ⟨w.heap.size, 0, none⟩) 0 0 [] rfl ⟨rfl, .inr ⟨w.heap.size, 0, #[], rfl, Nat.le_refl _, heap_alloc_new w _, Nat.le_refl _, Nat.zero_le _, rfl, rfl⟩⟩ (some ad) n c (l.map .bool) rfl (by rw [List.length_map, HN.out, Nat.mul_one]) HS0.out (fun u hu => by obtain ⟨x, _, rfl⟩ := List.mem_map.1 hu; rfl) (by have := HN.out; have := HL.out; omega) (by have := HN.out; have := HL.out; unfold maxLen; omega) (by simp) ?_)
  intro A5 c5 w5 hr5 hg5 hb5
  have hwa : Below w.heap.size w (w.alloc (.cells #[] 4)) := (Below.refl w.heap.size w).alloc (Nat.le_refl _) _
  have hrow : Row w5 4 1 A5 c5 n (l.map .bool) := ⟨hr5.1, by
    rcases hr5.2 with h | ⟨g, cap, cur, hv, hb, hg, h3⟩
    · exact .inl h
    · exact .inr ⟨g, cap, cur, hv, Nat.zero_le _, hg, h3⟩⟩
  have HR : Hid (RBo w5 A5 l ∧ (∀ g, A5.map (·.block) = some g → w.heap.size ≤ g ∧ g < w5.heap.size) ∧ Below w.heap.size w w5) := Lib.hid <| by
    refine ⟨row_rbo hrow, fun g hg => ⟨?_, hrow.lt g hg⟩, hwa.grown hg5 hwa.size (fun k e => by
      have e : w.heap.size = k := by simpa using e
      omega)⟩
    rcases hb5 with ⟨a, rfl, e⟩ | ⟨a, rfl, e⟩
    · have : a.block = g := by simpa using hg
      omega
    · have : a.block = g := by simpa using hg
      omega
  clear hr5 hg5 hb5 hwa hrow
  go_wp2_with fail
  go_ret
  exact ⟨A5, c5, by rw [← HN.out]; rfl, HR.out⟩
set_option maxRecDepth 100000 in
set_option maxHeartbeats 4000000 in
theorem arm_calls (w : World) (bd : Nat) (O : Nat → Prop) (d : Dk) (n : Int) (A : Option Addr) (c : Nat) (l : List Bool) (h : DkM w bd O d) (hn : -9223372036854775808 ≤ n ∧ n < 9223372036854775808) (hA : RBo w A l) (hAo : l ≠ [] → ∀ g, A.map (·.block) = some g → ¬ O g) (hc : A = none → c = 0) (hl : l.length ≤ 140737488351232) :
    Calls Tryz.prog 12 #[.pointer (some ⟨bd, 0, none⟩), .int .i64 n, .slice A l.length c] w (RetDN w bd O (d.arm n l) (.tuple #[])) := by
  obtain ⟨bs, Ap, cp, As, cs, h⟩ := h
  have H := Lib.hid h
  have HN := Lib.hid hn
  have HA := Lib.hid hA
  have HAO := Lib.hid hAo
  have HC := Lib.hid hc
  have HL := Lib.hid hl
  have h2 := h.c2
  obtain ⟨m, hm⟩ : ∃ m, m = l.length := ⟨_, rfl⟩
  have HM := Lib.hid hm
  rw [← hm]
  clear h hn hA hAo hc hl hm
  cases hoff : d.off with
  | true =>
    have HP : Hid (d.arm n l = d) := Lib.hid (by unfold Dk.arm; rw [if_pos hoff])
    rw [hoff] at h2
    clear hoff
    go_enter Tryz.func12, Tryz.ntmps12
    go_wp2_with fail
    rw [HP.out]
    exact bodyPost_ret (v := .tuple #[]) (by simp [results, Tryz.results12, go_sem]) rfl ⟨rfl, O, ⟨bs, Ap, cp, As, cs, H.out⟩, Upd.refl O w⟩
  | false =>
  have HD := Lib.hid (disarm_calls w bd bs Ap cp As cs O d H.out)
  have HP : Hid (d.arm n l = if n < 0 then d.disarm else { d with armed := true, left := n.toNat, surv := l }) := Lib.hid (by unfold Dk.arm; rw [if_neg (by rw [hoff]; decide)])
  rw [hoff] at h2
  clear hoff
  go_enter Tryz.func12, Tryz.ntmps12
  go_wp2_with fail
  go_at_call 38
  with_reducible refine HD.out.mono ?_
  rintro e w1 ⟨rfl, hr1, hg1⟩
  have HI1 := Lib.hid hr1
  have HU1 : Hid (Upd O w w1 O) := Lib.hid (Upd.grown hg1 (fun k e => by injection e with e; rw [← e]; exact H.out.o1))
  clear HD h2
  by_cases hneg : n < 0
  · have HPN : Hid (d.arm n l = d.disarm) := Lib.hid (by rw [HP.out, if_pos hneg])
    clear hr1 hg1
    go_wp2_with fail
    rw [HPN.out]
    exact bodyPost_ret (v := .tuple #[]) (by simp [results, Tryz.results12, go_sem]) rfl ⟨rfl, O, ⟨_, _, _, _, _, HI1.out⟩, HU1.out⟩
  · obtain ⟨nn, rfl⟩ := Int.eq_ofNat_of_zero_le (by omega : 0 ≤ n)
    have HPN : Hid (d.arm (nn : Int) l = { d with armed := true, left := nn, surv := l }) := Lib.hid (by rw [HP.out, if_neg hneg]; rfl)
    have HA1 : Hid (RBo w1 A l) := Lib.hid fun hne => by
      obtain ⟨g, o, hA, hg, hcc⟩ := HA.out hne
      refine ⟨g, o, hA, Nat.lt_of_lt_of_le hg hg1.size, fun j hj => ?_⟩
      rw [← hcc j hj]
      unfold World.cell?
      rw [hg1.block g hg (by simp; exact fun e => HAO.out hne g (by rw [hA]; rfl) (e ▸ H.out.o1))]
    clear hr1 hg1
    go_wp2_with ((with_reducible show wpList _ _ _ (Oper.mk _ (Op.store 4 _ _) _ _ _ _ :: _) _ _); refine wpList_storeB rfl 4 _ _ rfl bd 3 _ (.bool true) (by show 3 < 6; decide) rfl rfl HI1.out.blk (by kernel_rfl) rfl ?_)
    intro w2 hb2 hg2 hs2
    go_wp2_with ((with_reducible show wpList _ _ _ (Oper.mk _ (Op.store 3 _ _) _ _ _ _ :: _) _ _); refine wpList_storeB rfl 3 _ _ rfl bd 4 _ (.int .i64 (nn : Int)) (by show 4 < 6; decide) rfl rfl hb2.out (by kernel_rfl) rfl ?_)
    intro w3 hb3 hg3 hs3
    have HG3 : Hid (w1.grownBy w3 (some bd)) := Lib.hid (hg2.out.trans hg3.out)
    have HI3 : Hid (DkI w3 bd bs Ap cp none 0 O { d.disarm with armed := true, left := nn }) := Lib.hid (HI1.out.remake HG3.out hb3.out rfl (.inl ⟨rfl, rfl, rfl⟩) (.inl ⟨rfl, rfl, rfl⟩) (by show nn < _; have := HN.out; omega))
    have HA3 : Hid (RBo w3 A l) := Lib.hid fun hne => by
      obtain ⟨g, o, hA, hg, hcc⟩ := HA1.out hne
      refine ⟨g, o, hA, Nat.lt_of_lt_of_le hg HG3.out.size, fun j hj => ?_⟩
      rw [← hcc j hj]
      unfold World.cell?
      rw [HG3.out.block g hg (by simp; exact fun e => HAO.out hne g (by rw [hA]; rfl) (e ▸ H.out.o1))]
    have HCL : Hid (Calls Tryz.prog 39 #[.slice A m c] w3 (RetCl w3 l)) := Lib.hid (by rw [HM.out]; exact clonebl_calls w3 A c l HA3.out HC.out HL.out)
    have HU3 : Hid (Upd O w w3 O) := Lib.hid (HU1.out.trans (Upd.grown HG3.out (fun k e => by injection e with e; rw [← e]; exact H.out.o1)))
    clear hb2 hg2 hs2 hb3 hg3 hs3 HG3 HI1 HA1 HU1 HA3
    go_wp2_with fail
    go_at_call 39
    with_reducible refine HCL.out.mono ?_
    rintro e w4 ⟨A', c', rfl, hra, hnw, hb4⟩
    have HI4 : Hid (DkI w4 bd bs Ap cp none 0 O { d.disarm with armed := true, left := nn }) := Lib.hid (HI3.out.below hb4)
    have HRA := Lib.hid hra
    have HNW : Hid (∀ g, A'.map (·.block) = some g → w3.heap.size ≤ g ∧ ¬ O g ∧ g < w4.heap.size) := Lib.hid fun g hg => ⟨(hnw g hg).1, fun e => by have := HI3.out.own g e; have := hnw g hg; omega, (hnw g hg).2⟩
    have HU4 : Hid (Upd O w w4 O) := Lib.hid (HU3.out.trans (Upd.below hb4))
    have HSZ : Hid (w.heap.size ≤ w3.heap.size) := Lib.hid HU3.out.size
    rw [← HM.out]
    clear hra hnw hb4 HCL HI3 HU3
    go_wp2_with ((with_reducible show wpList _ _ _ (Oper.mk _ (Op.store 37 _ _) _ _ _ _ :: _) _ _); refine wpList_storeB rfl 37 _ _ rfl bd 5 _ (.slice A' m c') (by show 5 < 6; decide) rfl rfl HI4.out.blk (by kernel_rfl) rfl ?_)
    intro w5 hb5 hg5 hs5
    have hlt : ∀ g, A'.map (·.block) = some g → ¬ O g ∧ g < w4.heap.size := fun g hg => (HNW.out g hg).2
    have HI5 : Hid (DkM w5 bd (fun k => O k ∨ A'.map (·.block) = some k) (d.arm (nn : Int) l)) := Lib.hid <| by
      rw [HPN.out]
      refine ⟨_, _, _, _, _, HI4.out.resurv hg5.out (cs' := c') (A' := A') (l := l) ?_ HRA.out hlt⟩
      have := hb5.out
      rw [HM.out] at this
      exact this
    have HU5 : Hid (Upd O w w5 (fun k => O k ∨ A'.map (·.block) = some k)) := Lib.hid ((HU4.out.trans (Upd.grown hg5.out (fun k e => by injection e with e; rw [← e]; exact H.out.o1))).to fun k hk => by
      rcases hk with hk | hk
      · exact .inl hk
      · exact .inr (Nat.le_trans HSZ.out (HNW.out k hk).1))
    clear hb5 hg5 hs5 hlt
    go_wp2_with fail
    exact bodyPost_ret (v := .tuple #[]) (by simp [results, Tryz.results12, go_sem]) rfl ⟨rfl, _, HI5.out, HU5.out⟩
end Go.Proofs.YtjfpoahmjgeogaaGreatDoor
/- What the globals hold, under one name; fault.Code and fault.In of any fault; bytes compared, and cloned; values of arrays of bytes compared. -/
namespace Go.Proofs.YtjfpoahmjgeogaaGreatDoor
open Go.RowKit Nac Nac.Crc
structure Gl (w : World) : Prop where
  sha : ShaG w
  nib : Nib w
  hdl : Hdl w
  size : 5 ≤ w.heap.size
theorem Gl.keep {w w' : World} (h : Gl w) (hk : ∀ k, k < 5 → w'.heap[k]? = w.heap[k]?) (hs : w.heap.size ≤ w'.heap.size) : Gl w' := by
  have hc : ∀ p : Addr, p.block < 5 → w'.cell? p = w.cell? p := fun p hp => by
    unfold World.cell?
    rw [hk _ hp]
  exact ⟨⟨fun j v hj => (hc _ (by dsimp only; decide)).trans (h.sha.1 j v hj), fun j v hj => (hc _ (by dsimp only; decide)).trans (h.sha.2 j v hj)⟩, fun j hj => (hc _ (by dsimp only; decide)).trans (h.nib j hj), (hc _ (by dsimp only; decide)).trans h.hdl, Nat.le_trans h.size hs⟩
theorem Gl.below {w w' : World} {B : Nat} (h : Gl w) (hb : Below B w w') (hB : 5 ≤ B) : Gl w' := h.keep (fun k hk => hb.block k (by omega)) hb.size
theorem Gl.below' {w w' : World} (h : Gl w) (hb : Below w.heap.size w w') : Gl w' := h.below hb h.size
theorem Gl.upd {w w' : World} {O O' : Nat → Prop} (h : Gl w) (hu : Upd O w w' O') (ho : ∀ k, O k → 5 ≤ k) : Gl w' := h.keep (fun k hk => hu.keep k (by have := h.size; omega) (fun e => by have := ho k e; omega)) hu.size
theorem Gl.grown {w w' : World} {row : Option Nat} (h : Gl w) (hg : w.grownBy w' row) (hr : ∀ k, row = some k → 5 ≤ k) : Gl w' := h.keep (fun k hk => hg.block k (by have := h.size; omega) (fun e => by have := hr k e.symm; omega)) hg.size
theorem Gl.drew {w : World} (h : Gl w) : Gl w.drew := h.keep (fun _ _ => rfl) (Nat.le_refl _)
def FltB (w : World) (g : Nat) (c : Int) : Prop := ∃ r, Box w g (.int .i64 c :: r)
theorem FltB.below {w w' : World} {g : Nat} {c : Int} (h : FltB w g c) (hb : Below w.heap.size w w') : FltB w' g c := by
  obtain ⟨r, h⟩ := h
  exact ⟨r, h.below hb h.lt⟩
theorem code_any (w : World) (g : Nat) (c : Int) (hg : Hdl w) (hx : FltB w g c) :
    Calls Tryz.prog 42 #[flt g] w fun e w' => e = .returned (.int .i64 c) ∧ Below w.heap.size w w' := by
  obtain ⟨r, hx⟩ := hx
  unfold flt
  go_enter Tryz.func42, Tryz.ntmps42
  go_wp2_with fail
  refine (outer_hit w g hg).mono ?_
  rintro e w2 ⟨rfl, hb2⟩
  have hx2 := hx.below hb2 hx.lt
  have c0 : w2.cell? ⟨g, 0, none⟩ = some (.int .i64 c) := hx2.cell rfl
  have HB := Lib.hid hb2
  clear hb2 hx hx2
  go_wp2
  go_ret
  exact ⟨rfl, HB.out⟩
def RetInA (w : World) (c : Int) (e : Ending) (w' : World) : Prop := ∃ g2, e = .returned (flt g2) ∧ FltB w' g2 c ∧ Below w.heap.size w w'
theorem in_any (w : World) (g : Nat) (c k : Int) (hg : Hdl w) (hx : FltB w g c) : Calls Tryz.prog 47 #[flt g, .int .i64 k] w (RetInA w c) := by
  have HC := Lib.hid (code_any w g c hg hx)
  clear hx hg
  unfold flt at HC ⊢
  go_enter Tryz.func47, Tryz.ntmps47
  go_wp2_with fail
  refine HC.out.mono ?_
  rintro e w2 ⟨rfl, hb2⟩
  have HB2 := Lib.hid hb2
  clear hb2 HC
  go_wp2
  go_ret
  have hb3 : Below w2.heap.size w2 (w2.alloc (.cells #[.int .i64 c, .int .i64 k, flt g] 133)) := (Below.refl _ _).alloc (Nat.le_refl _) _
  exact ⟨w2.heap.size, rfl, ⟨_, Box.new w2 [.int .i64 c, .int .i64 k, flt g] 133⟩, HB2.out.trans (hb3.mono HB2.out.size)⟩
/-! ### bytes -/
theorem wpList_conv {w : World} {ops : Array Oper} {rest : List Oper} {o : Oper} {a : Act} {Q : Exit → Act → World → Prop} (hg : o.guard = none) (S T : TypeId) (x : Operand) (hop : o.op = .convert S T x) (v u : Value) (hx : a.eval x = u) (hv : (convert S T u).run Tryz.prog w = .ok v w)
    (h : wpList Tryz.prog ops Q rest (a.put o.dst v) w) : wpList Tryz.prog ops Q (o :: rest) a w := by
  refine wpList_plain hg fun K hK => ?_
  unfold Oper.wp execOp
  simp only [hop, hx]
  rw [Sem.run_bind, hv]
  exact hK _ _ h
set_option maxRecDepth 100000 in
theorem equal_calls (w : World) (A1 A2 : Option Addr) (n1 n2 c1 c2 : Nat) (l1 l2 : List UInt8) (hn1 : n1 = l1.length) (hn2 : n2 = l2.length) (h1 : RB w w.heap.size A1 l1) (h2 : RB w w.heap.size A2 l2) :
    Calls Tryz.prog 79 #[.slice A1 n1 c1, .slice A2 n2 c2] w fun e w' => e = .returned (.bool (decide (l1 = l2))) ∧ w' = w := by
  have q1 := run_conv w h1 n1 c1 hn1
  have q2 := run_conv w h2 n2 c2 hn2
  have HE : Hid (((strB l1).toList == (strB l2).toList) = decide (l1 = l2)) := Lib.hid (by rw [strB_toList, strB_toList, Bool.eq_iff_iff, beq_iff_eq, decide_eq_true_iff])
  clear hn1 hn2 h1 h2
  go_enter Tryz.func79, Tryz.ntmps79
  go_wp2_with (first | ((with_reducible show wpList _ _ _ (Oper.mk (some 6) (Op.convert 36 9 _) _ _ _ _ :: _) _ _); refine wpList_conv rfl _ _ _ rfl _ _ (by rfl) q1 ?_) | ((with_reducible show wpList _ _ _ (Oper.mk (some 8) (Op.convert 36 9 _) _ _ _ _ :: _) _ _); refine wpList_conv rfl _ _ _ rfl _ _ (by rfl) q2 ?_))
  go_ret
  exact ⟨by show Ending.returned (.bool ((strB l1).toList == (strB l2).toList)) = _; rw [HE.out], rfl⟩
theorem build0_byte (w : World) : (Instr.buildSlice 36 0 #[]).run Tryz.prog w = .ok (.slice (some ⟨w.heap.size, 0, none⟩) 0 0) (w.alloc (.cells #[] 5)) := by
  obtain ⟨ti, hi, hz, hs1, hb1⟩ := info_parts Tryz.infoByte
  have hu := Tryz.underlying36
  have hc1 : (sizeOf 5).run Tryz.prog w = .ok 1 w := by simp [sizeOf, typeInfo, hi, hs1]
  have e : (Array.map (fun _ : Nat => (default : Value)) (Array.range 0)) = #[] := by kernel_rfl
  have hn : (newRow 5 #[]).run Tryz.prog w = .ok ⟨w.heap.size, 0, none⟩ (w.alloc (.cells #[] 5)) := by simp [newRow]
  simp only [Instr.buildSlice, Sem.run_bind, run_underlying hu, Result.andThen_ok, hc1]
  simp [Instr.fill, e, hn]
def RetNew (w : World) (l : List UInt8) (e : Ending) (w' : World) : Prop := ∃ A c, e = .returned (.slice A l.length c) ∧ l.length ≤ c ∧ RB w' w'.heap.size A l ∧ (∀ g, A.map (·.block) = some g → w.heap.size ≤ g) ∧ Below w.heap.size w w'
set_option maxRecDepth 100000 in
set_option maxHeartbeats 4000000 in
theorem cloneb_calls (w : World) (A : Option Addr) (n c : Nat) (l : List UInt8) (hn : n = l.length) (h : RB w w.heap.size A l) (hc : A = none → c = 0) (hl : l.length ≤ 1000000000) : Calls Tryz.prog 45 #[.slice A n c] w (RetNew w l) := by
  have H := Lib.hid h
  have HL := Lib.hid hl
  have HN := Lib.hid hn
  clear h hl hn
  cases A with
  | none =>
    have hl0 : l = [] := Classical.byContradiction fun hne => by obtain ⟨g, o, hA, _⟩ := H.out hne; cases hA
    have hc0 := hc rfl
    subst hl0
    have hn0 : n = 0 := HN.out
    subst hn0 hc0
    go_enter Tryz.func45, Tryz.ntmps45
    go_wp2_with ((with_reducible show wpList _ _ _ (Oper.mk _ (Op.binOp BinOp.eql 36 _ _ _) _ _ _ _ :: _) _ _); refine wpList_binV (by rfl) _ _ _ _ _ rfl (.bool true) (by exact run_eqnil Tryz.underlying36 _ _ none 0 0 _) ?_)
    go_ret
    exact ⟨none, 0, rfl, Nat.le_refl _, RB.nil _ _ _, fun g hg => (by cases hg), Below.refl _ _⟩
  | some ad =>
  clear hc
  have hb0 := build0_byte
  have HR0 : Hid (RB (w.alloc (.cells #[] 5)) w.heap.size (some ad) l) := Lib.hid (H.out.below ((Below.refl w.heap.size w).alloc (Nat.le_refl _) _))
  have HO0 : Hid (OB (w.alloc (.cells #[] 5)) w.heap.size (some ⟨w.heap.size, 0, none⟩) 0 []) := Lib.hid (OB.new w (Nat.le_refl _) [] (by simp))
  go_enter Tryz.func45, Tryz.ntmps45
  go_wp2_with first | ((with_reducible show wpList _ _ _ (Oper.mk _ (Op.binOp BinOp.eql 36 _ _ _) _ _ _ _ :: _) _ _); refine wpList_binV (by rfl) _ _ _ _ _ rfl (.bool false) (by exact run_eqnil Tryz.underlying36 _ _ (some ad) n c _) ?_) | (at_builtin; go_loud (refine wpList_app_bytes _ rfl _ _ rfl w.heap.size (some ⟨w.heap.size, 0, none⟩) 0 [] _ rfl (by rfl) HO0.out (some ad) c l n (by rfl) HN.out HR0.out (by have := HL.out; show 0 + l.length ≤ _; omega) (by have := HO0.out.lt w.heap.size rfl; omega) ?_))
  intro A5 c5 L w5 hL ho hg hx
  have hL' : L = l := hL.out
  subst hL'
  have HR : Hid (L.length ≤ c5 ∧ RB w5 w5.heap.size A5 L ∧ (∀ g, A5.map (·.block) = some g → w.heap.size ≤ g) ∧ Below w.heap.size w w5) := Lib.hid <| by
    have hwa : Below w.heap.size w (w.alloc (.cells #[] 5)) := (Below.refl w.heap.size w).alloc (Nat.le_refl _) _
    exact ⟨ho.len, ho.rb, fun g hg' => (ho.lt g hg').1, below_app hwa (A := some ⟨w.heap.size, 0, none⟩) hg HO0.out hwa.size (Nat.le_refl _)⟩
  clear hL ho hg hx
  go_wp2_with fail
  go_ret
  exact ⟨A5, c5, rfl, HR.out⟩
/-! ### arrays of bytes as values -/
theorem uByte : Tryz.prog.underlying 5 = some (.int .u8) := by kernel_rfl
theorem kByte : Tryz.prog.plainKey 5 = true := by kernel_rfl
theorem infoByteS : (Tryz.prog.info? 5).isSome = true := by kernel_rfl
theorem cellsByteS : Tryz.prog.cellsOf 5 = 1 := by kernel_rfl
theorem uArr32 : Tryz.prog.underlying 45 = some (.array 32 5) := by kernel_rfl
theorem guardArr32 : Tryz.prog.eqGuardType Tryz.prog.depth 45 = false := by kernel_rfl
set_option maxRecDepth 100000 in
theorem run_items (w : World) (d : Nat) (xs ys : List UInt8) : ∀ (is : List Nat), (∀ i ∈ is, i < xs.length ∧ i < ys.length) →
    (Op.eqItems (d + 1) 5 1 (xs.map bv).toArray (ys.map bv).toArray is).run Tryz.prog w = .ok (is.all fun i => xs.getD i 0 == ys.getD i 0) w
  | [], _ => by simp [Op.eqItems]
  | i :: is, h => by
    obtain ⟨h1, h2⟩ := h i List.mem_cons_self
    have ih := run_items w d xs ys is (fun j hj => h j (List.mem_cons_of_mem _ hj))
    have p1 : (part 5 (xs.map bv).toArray (i * 1)).run Tryz.prog w = .ok (bv (xs.getD i 0)) w := run_part_plain w kByte (by simp [h1])
    have p2 : (part 5 (ys.map bv).toArray (i * 1)).run Tryz.prog w = .ok (bv (ys.getD i 0)) w := run_part_plain w kByte (by simp [h2])
    have p3 : (Op.equalIn (d + 1) 5 (bv (xs.getD i 0)) (bv (ys.getD i 0))).run Tryz.prog w = .ok (xs.getD i 0 == ys.getD i 0) w := by
      rw [show bv (xs.getD i 0) = .int .u8 ((xs.getD i 0).toNat : Int) from rfl, show bv (ys.getD i 0) = .int .u8 ((ys.getD i 0).toNat : Int) from rfl, run_equalIn_int w d 5 .u8 .u8 _ _ uByte]
      congr 1
      rw [Bool.eq_iff_iff, beq_iff_eq, beq_iff_eq, Int.natCast_inj, UInt8.toNat_inj]
    simp only [Op.eqItems, Sem.run_bind, p1, p2, p3, Result.andThen_ok, List.all_cons]
    cases xs.getD i 0 == ys.getD i 0
    · simp
    · simpa using ih
theorem all_range (xs ys : List UInt8) (n : Nat) (hx : xs.length = n) (hy : ys.length = n) : ((List.range n).all fun i => xs.getD i 0 == ys.getD i 0) = decide (xs = ys) := by
  rw [Bool.eq_iff_iff, List.all_eq_true, decide_eq_true_iff]
  constructor
  · intro h
    refine List.ext_getElem (by omega) fun i h1 h2 => ?_
    have := h i (by simp; omega)
    rw [beq_iff_eq] at this
    simpa [h1, h2] using this
  · rintro rfl i _
    simp
theorem run_neq32 (w : World) (p q : Operand) (xs ys : List UInt8) (hx : xs.length = 32) (hy : ys.length = 32) : (do eqGuard .neq 45 p q (.agg (xs.map bv).toArray) (.agg (ys.map bv).toArray); binOp .neq 45 (.agg (xs.map bv).toArray) (.agg (ys.map bv).toArray) : Sem Value).run Tryz.prog w = .ok (.bool (!decide (xs = ys))) w := by
  have h1 : (eqGuard .neq 45 p q (.agg (xs.map bv).toArray) (.agg (ys.map bv).toArray)).run Tryz.prog w = .ok () w := by
    simp [eqGuard]
  obtain ⟨i, hi⟩ := Option.isSome_iff_exists.1 infoByteS
  have h2 : (Op.equal 45 (.agg (xs.map bv).toArray) (.agg (ys.map bv).toArray)).run Tryz.prog w = .ok (decide (xs = ys)) w := by
    unfold Op.equal Op.maxDepth
    rw [run_equalIn_array w 9999 _ _ uArr32 hi, cellsByteS, run_items w 9998 _ _ _ (fun j hj => by simp at hj; omega), all_range _ _ 32 hx hy]
  rw [Sem.run_bind, h1]
  simp [binOp, h2]
end Go.Proofs.YtjfpoahmjgeogaaGreatDoor
/- The tables of sha and of crc and the handle of the type 'error', listed and tied: what the row's condition gives; a world for the witness. -/
namespace Go.Proofs.YtjfpoahmjgeogaaGreatDoor
open Go.ChangeShapes Go.WideShapes Go.ChangeAt Go.RowKit Nac Nac.Crc Nac.Sha
theorem own : ownKnob Tryz.prog.godebug = none := by kernel_rfl
theorem laidOut_ok : laidOutB Tryz.prog = true := by kernel_rfl
theorem hEt : Tryz.prog.globalNamed "errors.errorType" = some 3 := by kernel_rfl
theorem hRt : (Tryz.prog.cutTypes.find? (·.1 == "internal/reflectlite.rtype")).map (·.2) = some 213 := by kernel_rfl
theorem hOneRow : ((List.range Tryz.prog.types.size).filter fun t => Tryz.prog.rowNamed t [101, 114, 114, 111, 114]) = [41] := by kernel_rfl
theorem gTab : Tryz.prog.globalNamed "nacelle/crc.nibbles" = some 4 := by kernel_rfl
theorem gTabType : (Tryz.prog.globals[4]?).map (·.type) = some 226 := by kernel_rfl
theorem gIni : Tryz.prog.globalNamed "nacelle/sha.initial" = some 0 := by kernel_rfl
theorem gIniType : (Tryz.prog.globals[0]?).map (·.type) = some 165 := by kernel_rfl
theorem gCon : Tryz.prog.globalNamed "nacelle/sha.constants" = some 1 := by kernel_rfl
theorem gConType : (Tryz.prog.globals[1]?).map (·.type) = some 194 := by kernel_rfl
theorem cellsTab : Tryz.prog.cellsOf 226 = 16 := by kernel_rfl
theorem cellsIni : Tryz.prog.cellsOf 165 = 8 := by kernel_rfl
theorem cellsCon : Tryz.prog.cellsOf 194 = 64 := by kernel_rfl
theorem cellsWord : Tryz.prog.cellsOf 44 = 1 := by kernel_rfl
def nibI : List Int := [0, 274646895, 549293790, 820201905, 1098587580, 1361435347, 1640403810, 1905808397, 2197175160, 2460548119, 2722870694, 2987750089, 3280807620, 3553878443, 3811616794, 4084100981]
theorem nibI_eq : ∀ j : _root_.Fin 16, nibI.getD j.val 0 = ((table.getD j.val 0 : Nat) : Int) := by decide
theorem laidMet_tail {P : Program} {W : World} {x : String × DataW Unit} {r : List (String × DataW Unit)} (h : laidMet P (x :: r) W) : laidMet P r W := by
  obtain ⟨n, d⟩ := x
  obtain ⟨ps, ⟨g, t, cs, fuel, p, q, _, _, _, _, hq, rfl⟩, hnd, hc⟩ := h
  exact ⟨q, hq, (List.nodup_append.1 hnd).2.1, fun b off hb => hc b off (List.mem_append_right _ hb)⟩
theorem range_of_tab {W : World} {name : String} {g : Nat} {zs : List Int} (h : Lib.TabIs Tryz.prog W name .u32 zs) (hg : Tryz.prog.globalNamed name = some g) : W.rangeAt g 0 (u32s zs) := fun j v hj => by
  have t := World.var?_cell hg h j
  rw [Nat.zero_add, t]
  simpa [u32s] using hj
def laidL : List (String × DataW Unit) := [("nacelle/sha.initial", Rows.laid_nacelle_sha_initial), ("nacelle/sha.constants", Rows.laid_nacelle_sha_constants), ("errors.errorType", Rows.laid_errors_errorType), ("nacelle/crc.nibbles", Rows.laid_nacelle_crc_nibbles)]
theorem gl_of_laid {W : World} (h : laidMetH Tryz.prog laidL W) : Gl W := by
  have h' : laidMet Tryz.prog [("nacelle/sha.initial", Rows.laid_nacelle_sha_initial), ("nacelle/sha.constants", Rows.laid_nacelle_sha_constants), ("nacelle/crc.nibbles", Rows.laid_nacelle_crc_nibbles)] W ∧ handlesMet Tryz.prog [("errors.errorType", Rows.laid_errors_errorType)] W := h
  obtain ⟨h1, h2⟩ := h'
  have t1 : Lib.TabIs Tryz.prog W "nacelle/sha.initial" .u32 ini.l :=
    Lib.tabIs_of_head (rest := [("nacelle/sha.constants", Rows.laid_nacelle_sha_constants), ("nacelle/crc.nibbles", Rows.laid_nacelle_crc_nibbles)]) gIni gIniType Tryz.underlying165 Tryz.underlying44 cellsWord cellsIni h1
  have h3 := laidMet_tail h1
  have t2 : Lib.TabIs Tryz.prog W "nacelle/sha.constants" .u32 consts :=
    Lib.tabIs_of_head (rest := [("nacelle/crc.nibbles", Rows.laid_nacelle_crc_nibbles)]) gCon gConType Tryz.underlying194 Tryz.underlying44 cellsWord cellsCon h3
  have h4 := laidMet_tail h3
  have t3 : Lib.TabIs Tryz.prog W "nacelle/crc.nibbles" .u32 nibI :=
    Lib.tabIs_of_head (rest := []) gTab gTabType Tryz.underlying226 Tryz.underlying44 cellsWord cellsTab h4
  have nib : Nib W := by
    intro j hj
    have := t3.cell gTab j (by simpa [nibI] using hj)
    rw [this]
    have e := nibI_eq ⟨j, hj⟩
    simp only at e
    rw [e]
  have hdl : Hdl W := by
    obtain ⟨name, u, ty, e1, e2, e3, e4, e5⟩ := h2 _ (List.mem_singleton.2 rfl)
    have en : name = [101, 114, 114, 111, 114] := (Option.some.inj e1).symm
    subst en
    obtain rfl := Option.some.inj (hRt.symm.trans e2)
    have hm : ty ∈ (List.range Tryz.prog.types.size).filter fun t => Tryz.prog.rowNamed t [101, 114, 114, 111, 114] := List.mem_filter.2 ⟨List.mem_range.2 e3, e4⟩
    rw [hOneRow] at hm
    obtain rfl := List.mem_singleton.1 hm
    have hh : typeHandle Tryz.prog 41 = .pointer (some ⟨5, 41, none⟩) := by kernel_rfl
    rw [hh] at e5
    unfold Hdl
    simpa using World.var?_cell hEt e5 0
  exact ⟨⟨range_of_tab t1 gIni, range_of_tab t2 gCon⟩, nib, hdl, block_lt_of_cell (nib 0 (by decide))⟩
noncomputable def laidWorld (os : Os) : World :=
  let h := (World.holding Tryz.prog os ⟨#[], #[], []⟩).heap
  let h := h.modify 0 fun
    | .cells _ t frozen => .cells (ini.l.map (Value.int .u32)).toArray t frozen
    | o => o
  let h := h.modify 1 fun
    | .cells _ t frozen => .cells (consts.map (Value.int .u32)).toArray t frozen
    | o => o
  let h := h.modify 3 fun
    | .cells _ t frozen => .cells #[.iface 213 (.agg #[.pointer (some ⟨5, 41, none⟩)])] t frozen
    | o => o
  let h := h.modify 4 fun
    | .cells _ t frozen => .cells (nibI.map (Value.int .u32)).toArray t frozen
    | o => o
  { World.holding Tryz.prog os ⟨#[], #[], []⟩ with heap := h }
end Go.Proofs.YtjfpoahmjgeogaaGreatDoor
/- Instructions out of bytes, and back. Plain Lean. -/
namespace Nac.Pvm
open Go Go.RowKit
def insAt (l : List UInt8) (i : Nat) : Ins := ⟨(l.getD (4 * i) 0).toNat, (l.getD (4 * i + 1) 0).toNat, (l.getD (4 * i + 2) 0).toNat, (l.getD (4 * i + 3) 0).toNat⟩
def insOf (l : List UInt8) : List Ins := (List.range (l.length / 4)).map (insAt l)
theorem insOf_len (l : List UInt8) : (insOf l).length = l.length / 4 := by simp [insOf]
theorem insAt_fits (l : List UInt8) (i : Nat) : (insAt l i).fits := ⟨UInt8.toNat_lt _, UInt8.toNat_lt _, UInt8.toNat_lt _, UInt8.toNat_lt _⟩
theorem insOf_fits (l : List UInt8) : ∀ i ∈ insOf l, i.fits := fun i hi => by
  obtain ⟨k, _, rfl⟩ := List.mem_map.1 hi
  exact insAt_fits l k
def insB (i : Ins) : List UInt8 := [UInt8.ofNat i.op, UInt8.ofNat i.a, UInt8.ofNat i.b, UInt8.ofNat i.c]
def encI (l : List Ins) : List UInt8 := (l.map insB).flatten
theorem encI_range (l : List UInt8) : ∀ n, 4 * n ≤ l.length → encI ((List.range n).map (insAt l)) = l.take (4 * n)
  | 0, _ => by simp [encI]
  | n + 1, h => by
    have ih := encI_range l n (by omega)
    have h0 : 4 * n < l.length := by omega
    have h1 : 4 * n + 1 < l.length := by omega
    have h2 : 4 * n + 2 < l.length := by omega
    have h3 : 4 * n + 3 < l.length := by omega
    have e : 4 * (n + 1) = 4 * n + 1 + 1 + 1 + 1 := by omega
    rw [List.range_succ, List.map_append, encI, List.map_append, List.flatten_append]
    have ih' : (((List.range n).map (insAt l)).map insB).flatten = l.take (4 * n) := ih
    have e4 : l.take (4 * n + 1 + 1 + 1 + 1) = l.take (4 * n) ++ [l[4 * n], l[4 * n + 1], l[4 * n + 2], l[4 * n + 3]] := by
      rw [List.take_succ_eq_append_getElem h3, List.take_succ_eq_append_getElem h2, List.take_succ_eq_append_getElem h1, List.take_succ_eq_append_getElem h0]
      simp only [List.append_assoc, List.cons_append, List.nil_append]
    have e5 : (List.map insB (List.map (insAt l) [n])).flatten = [l[4 * n], l[4 * n + 1], l[4 * n + 2], l[4 * n + 3]] := by
      simp [insB, insAt, List.getD, h0, h1, h2, h3]
    rw [ih', e, e4, e5]
theorem encI_insOf (l : List UInt8) (h : l.length % 4 = 0) : encI (insOf l) = l := by
  unfold insOf
  rw [encI_range l _ (by omega), List.take_of_length_le (by omega)]
end Nac.Pvm
/- NacelleImages: an install, as the law's argument holds it. -/
namespace Go.Proofs.YtjfpoahmjgeogaaGreatDoor
open Go.RowKit Nac Nac.Pvm
structure Inst where
  A0 : Option Addr
  c0 : Nat
  code : List Ins
  A1 : Option Addr
  c1 : Nat
  chunks : List UInt8
  flip : Int
  cut : Int
  A4 : Option Addr
  c4 : Nat
  keep : List Bool
def xcells (x : Inst) : List Value := [.slice x.A0 x.code.length x.c0, .slice x.A1 x.chunks.length x.c1, .int .i64 x.flip, .int .i64 x.cut, .slice x.A4 x.keep.length x.c4]
structure Inst.ok (w : World) (x : Inst) : Prop where
  rc : RIn w w.heap.size x.A0 x.code
  lc : x.code.length ≤ 140737488351232
  rb : RB w w.heap.size x.A1 x.chunks
  hb : x.chunks.length ≤ x.c1
  lb : x.chunks.length ≤ 140737488351232
  rk : RBo w x.A4 x.keep
  ck : x.A4 = none → x.c4 = 0
  lk : x.keep.length ≤ 140737488351232
  fi : -9223372036854775808 ≤ x.flip ∧ x.flip < 9223372036854775808
  ci : -9223372036854775808 ≤ x.cut ∧ x.cut < 9223372036854775808
def RInst (w : World) (A : Option Addr) (xs : List Inst) : Prop := xs ≠ [] → ∃ g o, A = some ⟨g, o, none⟩ ∧ g < w.heap.size ∧ ∀ i (h : i < xs.length), w.rangeAt g (o + i * 5) (xcells xs[i])
end Go.Proofs.YtjfpoahmjgeogaaGreatDoor
/- No list in what came in is longer than memory reaches: kept by what lies inside. Over whatever program. -/
namespace Nac
open Go Go.RowKit
section
variable {H : Type} {P : Program}
def Sm (P : Program) (t : TypeId) (d : DataW H) : Prop := ∀ n ∈ d.weights P t, n ≤ reachBytes
theorem Sm.of_each {ts : List TypeId} {ds : List (DataW H)} (h : (DataW.weightsEach P ts ds).all (· ≤ reachBytes) = true) {j : Nat} {t : TypeId} {d : DataW H} (ht : ts[j]? = some t) (hd : ds[j]? = some d) : Sm P t d := fun n hn => by
  have := List.all_eq_true.1 h n (DataW.weights_mem_each ht hd n hn)
  simpa using this
theorem mem_weightsAll {e : TypeId} : ∀ {ds : List (DataW H)} {d : DataW H}, d ∈ ds → ∀ n ∈ d.weights P e, n ∈ DataW.weightsAll P e ds
  | d0 :: ds, d, hd, n, hn => by
    simp only [DataW.weightsAll, List.mem_append]
    rcases List.mem_cons.1 hd with rfl | hd
    · exact Or.inl hn
    · exact Or.inr (mem_weightsAll hd n hn)
theorem Sm.len {t e : TypeId} {el sp : List (DataW H)} (h : Sm P t (.slice el sp)) (hu : P.underlying t = some (.slice e)) : (el.length + sp.length) * P.bytesOf e ≤ reachBytes :=
  h _ (by simp [DataW.weights, hu])
theorem Sm.elem {t e : TypeId} {el sp : List (DataW H)} (h : Sm P t (.slice el sp)) (hu : P.underlying t = some (.slice e)) {d : DataW H} (hd : d ∈ el) : Sm P e d := fun n hn =>
  h n (by simp only [DataW.weights, hu, List.mem_cons, List.mem_append]; exact Or.inr (Or.inl (mem_weightsAll hd n hn)))
theorem Sm.part {t : TypeId} {fs : Array Field} {ps : List (DataW H)} (h : Sm P t (.agg ps)) (hu : P.underlying t = some (.struct fs)) {j : Nat} {f : Field} {d : DataW H} (hf : fs[j]? = some f) (hd : ps[j]? = some d) : Sm P f.type d := fun n hn =>
  h n (by
    simp only [DataW.weights, hu]
    exact DataW.weights_mem_each (by rw [List.getElem?_map, Array.getElem?_toList, hf]; rfl) hd n hn)
end
end Nac
/- Instructions, words and a machine that came in. -/
namespace Go.Proofs.YtjfpoahmjgeogaaGreatDoor
open Go.RowKit Go.WideShapes Go.ChangeShapes Go.Deep Nac Nac.Pvm
section
variable {H : Type} {enc : TypeId × Value → H}
theorem spot_noneM {W : World} {a : Addr} {v : Value} (h : W.cell? a = some v) : a.spot = none := by
  cases hs : a.spot with
  | none => rfl
  | some x =>
  unfold World.cell? at h
  split at h
  · simp [hs] at h
  · cases h
theorem add_zeroM (a : Addr) : a.add 0 = a := by simp [Addr.add]
theorem u8_of {z : Int} (h : (Lit.int .u8 z).wf = true) : ∃ n : Nat, z = n ∧ n < 256 := by
  simp [Lit.wf, IntKind.min, IntKind.max, IntKind.signed, IntKind.bits] at h
  exact ⟨z.toNat, by omega, by omega⟩
set_option maxRecDepth 100000 in
theorem trod_ins {W : World} {fuel : Nat} {cs : List Value} {y : DataW H × List MemPlace} (h : DataW.trod enc Tryz.prog W 0 (fun _ => true) true fuel 94 cs = some y) :
    ∃ x : Ins, cs = [.int .u8 x.op, .int .u8 x.a, .int .u8 x.b, .int .u8 x.c] ∧ x.fits := by
  obtain ⟨ys, n, _, rfl, hlen, hyl, hf⟩ := DataW.trod_struct Tryz.underlying94 h
  have hc : Tryz.prog.cellsOf 94 = 4 := by kernel_rfl
  rw [hc] at hlen
  match cs, hlen with
  | [v0, v1, v2, v3], _ =>
    match ys, hyl with
    | [y0, y1, y2, y3], _ =>
      have g0 := hf 0 _ rfl
      have g1 := hf 1 _ rfl
      have g2 := hf 2 _ rfl
      have g3 := hf 3 _ rfl
      have k0 : DataW.trod enc Tryz.prog W 0 (fun _ => true) true n 5 [v0] = some y0 := g0
      have k1 : DataW.trod enc Tryz.prog W 0 (fun _ => true) true n 5 [v1] = some y1 := g1
      have k2 : DataW.trod enc Tryz.prog W 0 (fun _ => true) true n 5 [v2] = some y2 := g2
      have k3 : DataW.trod enc Tryz.prog W 0 (fun _ => true) true n 5 [v3] = some y3 := g3
      obtain ⟨z0, e0, _, w0⟩ := DataW.trod_int Tryz.underlying5 k0
      obtain ⟨z1, e1, _, w1⟩ := DataW.trod_int Tryz.underlying5 k1
      obtain ⟨z2, e2, _, w2⟩ := DataW.trod_int Tryz.underlying5 k2
      obtain ⟨z3, e3, _, w3⟩ := DataW.trod_int Tryz.underlying5 k3
      simp at e0 e1 e2 e3
      obtain ⟨n0, rfl, f0⟩ := u8_of w0
      obtain ⟨n1, rfl, f1⟩ := u8_of w1
      obtain ⟨n2, rfl, f2⟩ := u8_of w2
      obtain ⟨n3, rfl, f3⟩ := u8_of w3
      exact ⟨⟨n0, n1, n2, n3⟩, by rw [e0, e1, e2, e3], ⟨f0, f1, f2, f3⟩⟩
theorem trod_inss {W : World} {fuel : Nat} {v : Value} {y : DataW H × List MemPlace} (h : DataW.trod enc Tryz.prog W 0 (fun _ => true) true fuel 35 [v] = some y) (hs : Sm Tryz.prog 35 y.1) :
    ∃ A c xs, v = .slice A xs.length c ∧ xs.length ≤ c ∧ RIn W W.heap.size A xs ∧ c ≤ 140737488351232 := by
  have hc3 : Tryz.prog.cellsOf 94 = 4 := by kernel_rfl
  have hb24 : Tryz.prog.bytesOf 94 = 4 := by kernel_rfl
  rcases open_slice Tryz.underlying35 h with ⟨hcs, hx⟩ | ⟨a, len, cap, m, n, D, Pl, hcs, _, hl, hm, hmm, hx, hi⟩
  · simp at hcs
    subst hcs
    exact ⟨none, 0, [], rfl, Nat.le_refl _, fun h => absurd rfl h, by simp⟩
  · simp at hcs
    subst hcs
    simp only [if_true] at hmm
    subst hmm
    subst hx
    have hsl := hs.len Tryz.underlying35
    rw [hb24] at hsl
    simp only [List.length_map, List.length_range, reachBytes] at hsl
    have hex : ∀ i, i < len → ∃ x : Ins, W.cell? (a.add (i * 4)) = some (.int .u8 x.op) ∧ W.cell? ((a.add (i * 4)).add 1) = some (.int .u8 x.a) ∧ W.cell? ((a.add (i * 4)).add 2) = some (.int .u8 x.b) ∧ W.cell? ((a.add (i * 4)).add 3) = some (.int .u8 x.c) ∧ x.fits := by
      intro i hil
      obtain ⟨cs', h1, h2⟩ := hi i (by omega)
      rw [hc3] at h1
      obtain ⟨_, hcl, hat⟩ := World.cells?_some h1
      obtain ⟨x, rfl, hfit⟩ := trod_ins h2
      refine ⟨x, ?_, hat 1 (by decide), hat 2 (by decide), hat 3 (by decide), hfit⟩
      have := hat 0 (by decide)
      rwa [add_zeroM] at this
    obtain ⟨X, hX⟩ := choose_lt hex
    have hlen : ((List.range len).map X).length = len := by simp
    refine ⟨some a, m, (List.range len).map X, by rw [hlen], by omega, fun hne => ?_, by omega⟩
    have hpos : 0 < len := by
      rcases Nat.eq_zero_or_pos len with h | h
      · subst h; simp at hne
      · exact h
    have h0 := (hX 0 hpos).1
    rw [Nat.zero_mul, add_zeroM] at h0
    have hblk : a.block < W.heap.size := block_lt_of_cell h0
    have hspot := spot_noneM h0
    obtain ⟨b, o, s⟩ := a
    simp only at hspot
    subst hspot
    refine ⟨b, o, rfl, hblk, fun j hj => ?_⟩
    have hj' : j < len := by omega
    obtain ⟨h1, h2, h3, h4, h5⟩ := hX j hj'
    rw [Addr.add_mid] at h1 h2 h3 h4
    rw [Addr.add_mid] at h2 h3 h4
    have e : ((List.range len).map X)[j] = X j := by simp
    rw [e]
    exact ⟨h1, h2, h3, h4, h5⟩
structure MachFits (m : Mach) : Prop where
  place : (Lit.int .i64 m.place).wf = true
  r : ∀ z ∈ m.r, (Lit.int .i64 z).wf = true
  mem : ∀ z ∈ m.mem, (Lit.int .i64 z).wf = true
  state : (Lit.int .i64 m.state).wf = true
  trap : (Lit.int .i64 m.trap).wf = true
end
end Go.Proofs.YtjfpoahmjgeogaaGreatDoor
