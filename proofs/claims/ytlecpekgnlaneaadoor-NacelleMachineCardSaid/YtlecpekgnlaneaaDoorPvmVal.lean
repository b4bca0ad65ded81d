/- Machines and events as values. -/
import Derived.Test.YtlecpekgnlaneaaDoorPvmStep
import Derived.Test.YtlecpekgnlaneaaDoorStruct
namespace Go.Proofs.YtlecpekgnlaneaaDoor
open Go.RowKit Nac Nac.Pvm
theorem gbelow {w w' : World} (h : w.grownBy w' none) : Below w.heap.size w w' := (Below.refl _ _).grown h (Nat.le_refl _) (fun j e => by cases e)
theorem _root_.Nac.Blk.gn {w w' : World} {b : Nat} {cs : List Value} (h : Blk w b cs) (hg : w.grownBy w' none) : Blk w' b cs := h.grown hg (by simp)
theorem sMach : SInfo 35 12 := ⟨by kernel_rfl, _, Tryd.underlying35, rfl⟩
theorem sEv : SInfo 37 2 := ⟨by kernel_rfl, _, Tryd.underlying37, rfl⟩
theorem mcs_len {m : Mach} {A : Option Addr} {c : Nat} (h : m.r.length = 8) : (mcs m A c).length = 12 := by simp [mcs, h]
theorem mcs_one (m : Mach) (A : Option Addr) (c : Nat) : ∀ v ∈ mcs m A c, v.oneCell' = true := by
  intro v hv
  simp only [mcs, List.mem_cons, List.mem_append, List.mem_map, List.not_mem_nil, or_false] at hv
  rcases hv with rfl | ⟨x, _, rfl⟩ | rfl | rfl | rfl <;> rfl
def ecs (k z : Int) : List Value := [.int .i64 k, .int .i64 z]
theorem ecs_one (k z : Int) : ∀ v ∈ ecs k z, v.oneCell' = true := by
  intro v hv
  simp only [ecs, List.mem_cons, List.not_mem_nil, or_false] at hv
  rcases hv with rfl | rfl <;> rfl
/-- a machine's value -/
def mv (m : Mach) (A : Option Addr) (c : Nat) : Value := .agg (mcs m A c).toArray
def evv (k z : Int) : Value := .agg (ecs k z).toArray
def zM : Mach := ⟨0, [0, 0, 0, 0, 0, 0, 0, 0], [], 0, 0⟩
theorem zMach : ((Tryd.prog.info? 35).bind (·.zero)) = some (.agg (mcs zM none 0).toArray) := by kernel_rfl
theorem zEv : ((Tryd.prog.info? 37).bind (·.zero)) = some (.agg (ecs 0 0).toArray) := by kernel_rfl
theorem OW.base {w : World} {base base' c : Nat} {A : Option Addr} {l : List Int} (h : OW w base A c l) (hb : base' ≤ base) : OW w base' A c l := by
  refine ⟨h.1, ?_⟩
  rcases h.2 with h | ⟨g, cap, cur, hv, hbg, rest⟩
  · exact .inl h
  · exact .inr ⟨g, cap, cur, hv, Nat.le_trans hb hbg, rest⟩
theorem RIn.mono {w : World} {B B' : Nat} {A : Option Addr} {l : List Ins} (h : RIn w B A l) (hB : B ≤ B') : RIn w B' A l := fun hn => by
  obtain ⟨b, o, hA, hlt, hc⟩ := h hn
  exact ⟨b, o, hA, by omega, hc⟩
theorem OW.other {w : World} {base c : Nat} {A : Option Addr} {l : List Int} (h : OW w base A c l) (p : Addr) (v : Value) (hne : ∀ g, A.map (·.block) = some g → g ≠ p.block) : OW (w.setCell p v) base A c l :=
  h.kept (grown_setCell w p v) (.inr fun e => hne _ e rfl)
theorem Fr2.toBelow {w w1 w2 : World} {B b : Nat} {A : Option Addr} (h : Fr2 b A w1 w2) (hb : Below B w w1) (hB : B ≤ w1.heap.size) (h1 : B ≤ b) (h2 : ∀ g, A.map (·.block) = some g → B ≤ g) : Below B w w2 :=
  ⟨h.os.trans hb.os, h.tape.trans hb.tape, h.output.trans hb.output, Nat.le_trans hb.size h.size, fun k hk => (h.block k (by omega) (by omega) (fun e => by have := h2 k e; omega)).trans (hb.block k hk)⟩
/-- a machine and an event are handed over to what is handed back -/
structure SJ (w0 : World) (B base : Nat) (m : Mach) (A : Option Addr) (c : Nat) (k z : Int) (b ev r1 r2 : Nat) (d1 d2 : Bool) (w : World) : Prop where
  mb : Blk w b (mcs m A c)
  eb : Blk w ev (ecs k z)
  rb : ∃ cs, cs.length = 12 ∧ Blk w r1 cs ∧ (d1 = true → cs = mcs m A c)
  sb : ∃ cs, cs.length = 2 ∧ Blk w r2 cs ∧ (d2 = true → cs = ecs k z)
  own : OW w base A c m.mem
  bel : Below B w0 w
structure SN (A : Option Addr) (B b ev r1 r2 : Nat) : Prop where
  n1 : b ≠ r1
  n2 : ev ≠ r1
  n3 : r2 ≠ r1
  n4 : b ≠ r2
  n5 : ev ≠ r2
  b1 : B ≤ r1
  b2 : B ≤ r2
  a1 : A.map (·.block) ≠ some r1
  a2 : A.map (·.block) ≠ some r2
section
variable {w0 w w' : World} {B base : Nat} {m : Mach} {A : Option Addr} {c : Nat} {k z : Int} {b ev r1 r2 : Nat} {d1 d2 : Bool}
theorem SJ.store1 (h : SJ w0 B base m A c k z b ev r1 r2 d1 d2 w) (hn : SN A B b ev r1 r2) (hl : m.r.length = 8) (hB : B ≤ w.heap.size) (hb : Blk w' r1 (mcs m A c)) (hg : w.grownBy w' (some r1)) : SJ w0 B base m A c k z b ev r1 r2 true d2 w' := by
  obtain ⟨cs, h1, h2, h3⟩ := h.sb
  exact ⟨h.mb.grown hg (fun e => hn.n1 (by injection e with e; exact e.symm)), h.eb.grown hg (fun e => hn.n2 (by injection e with e; exact e.symm)), ⟨_, mcs_len hl, hb, fun _ => rfl⟩,
    ⟨cs, h1, h2.grown hg (fun e => hn.n3 (by injection e with e; exact e.symm)), h3⟩, h.own.kept hg (.inr hn.a1), h.bel.grown hg hB (fun j e => by injection e with e; have := hn.b1; omega)⟩
theorem SJ.store2 (h : SJ w0 B base m A c k z b ev r1 r2 d1 d2 w) (hn : SN A B b ev r1 r2) (hB : B ≤ w.heap.size) (hb : Blk w' r2 (ecs k z)) (hg : w.grownBy w' (some r2)) : SJ w0 B base m A c k z b ev r1 r2 d1 true w' := by
  obtain ⟨cs, h1, h2, h3⟩ := h.rb
  exact ⟨h.mb.grown hg (fun e => hn.n4 (by injection e with e; exact e.symm)), h.eb.grown hg (fun e => hn.n5 (by injection e with e; exact e.symm)),
    ⟨cs, h1, h2.grown hg (fun e => hn.n3 (by injection e with e)), h3⟩, ⟨_, rfl, hb, fun _ => rfl⟩, h.own.kept hg (.inr hn.a2), h.bel.grown hg hB (fun j e => by injection e with e; have := hn.b2; omega)⟩
theorem SJ.size (h : SJ w0 B base m A c k z b ev r1 r2 d1 d2 w) (hn : SN A B b ev r1 r2) : B ≤ w.heap.size := by
  obtain ⟨cs, _, h2, _⟩ := h.rb
  have := h2.lt
  have := hn.b1
  omega
end
end Go.Proofs.YtlecpekgnlaneaaDoor
