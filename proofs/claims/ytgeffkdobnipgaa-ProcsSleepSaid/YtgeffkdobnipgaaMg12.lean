/- Bundle 12 of the texts RefNew, Sm, Post, OpenS, OpenP2, Few, ProcSame, Rel. -/
import Derived.Test.YtgeffkdobnipgaaMg11
import Derived.SizedLaws
import Derived.WalkKit
import Derived.ProofKit
import Derived.OpenShut
import Derived.ChangeSame
import Derived.Test.YtgeffkdobnipgaaMg7
import Derived.Deep.Slices
import Derived.Deep.Fields
import Derived.Deep.MidRow
import Derived.Test.YtgeffkdobnipgaaMg3
/- The document's set: New. -/
namespace Nac.Procs
def M0 (prs : List Int) (rs : List RIn) : RSt := ⟨prs, rs, [], [], List.replicate rs.length [], List.replicate prs.length ok⟩
theorem mayB_of {r : RIn} (h : r.Ok) : mayB r = true := by
  unfold mayB
  obtain ⟨h1, h2, h3, h4, h5, h6, h7⟩ := h
  exact decide_eq_true ⟨by omega, by omega, h2, h3, h5, h6, h4, h7⟩
theorem getD_repl {X : Type} (n i : Nat) (x : X) : (List.replicate n x).getD i x = x := by
  by_cases hi : i < n
  · simp [List.getD, hi]
  · simp [List.getD, hi]
theorem M0_inv {prs : List Int} {rs : List RIn} (h : OkNew prs rs) : RInv (M0 prs rs) 0 := by
  have hr : ∀ r, r < rs.length → (rs.getD r default).Ok := fun r hr => by
    rw [show rs.getD r default = rs[r] by simp [List.getD, hr]]
    exact h.rs _ (List.getElem_mem hr)
  refine ⟨h.n1, h.n8, h.m8, List.length_replicate, List.length_replicate, fun p hp => (by cases hp), fun p hp => (by cases hp), Nat.le_refl _, Nat.le_refl _, fun p hp => (by cases hp), fun r hlt => ?_, fun r hlt hk => ?_, fun r => ?_, fun r hlt => ?_⟩
  · have := hr r hlt
    exact ⟨this.c0, this.c1, this.hi⟩
  · have h1 := (hr r hlt).none hk
    show (rs.getD r default).count = (((List.replicate rs.length ([] : List Int)).getD r []).length : Int)
    rw [getD_repl, h1]
    rfl
  · show ((List.replicate rs.length ([] : List Int)).getD r []).length ≤ 16
    rw [getD_repl]
    exact Nat.zero_le _
  · have := hr r hlt
    show 0 ≤ (rs.getD r default).kind ∧ (rs.getD r default).kind ≤ 2 ∧ 1 ≤ (rs.getD r default).most
    exact ⟨by rcases this.kind with h | h | h <;> omega, by rcases this.kind with h | h | h <;> omega, this.lo⟩
end Nac.Procs
namespace Go.Proofs.Ytgeffkdobnipgaa
open Go.RowKit Nac Nac.Procs
def rset (A0 A1 A4 A5 : Option Addr) (n0 n1 n4 n5 c0 c1 c4 c5 : Nat) : List Value := [.slice A0 n0 c0, .slice A1 n1 c1, .slice none 0 0, .slice none 0 0, .slice A4 n4 c4, .slice A5 n5 c5]
def rA (A0 A1 A4 A5 : Option Addr) : Nat → Option Addr
  | 0 => A0
  | 1 => A1
  | 4 => A4
  | 5 => A5
  | _ => none
def rC (A0 A1 A4 A5 : Nat) : Nat → Nat
  | 0 => A0
  | 1 => A1
  | 4 => A4
  | 5 => A5
  | _ => 0
theorem refm0 {w : World} {R : Nat} {prs : List Int} {rs : List RIn} {A0 A1 A4 A5 : Option Addr} {c0 c1 c4 c5 : Nat}
    (hb : Blk w R (rset A0 A1 A4 A5 prs.length rs.length rs.length prs.length c0 c1 c4 c5))
    (h0 : Row w 3 1 A0 c0 prs.length (prs.map (Value.int .i64))) (h1 : Row w 30 3 A1 c1 rs.length (rs.map rincells).flatten)
    (h4 : Row w 56 1 A4 c4 rs.length (List.replicate rs.length (.slice none 0 0))) (h5 : Row w 37 3 A5 c5 prs.length ((List.replicate prs.length ok).map ocs).flatten)
    (ap : ∀ i j g, i ≠ j → (rA A0 A1 A4 A5 i).map (·.block) = some g → (rA A0 A1 A4 A5 j).map (·.block) ≠ some g) (aps : ∀ j, (rA A0 A1 A4 A5 j).map (·.block) ≠ some R) :
    RefM w R (M0 prs rs) (rA A0 A1 A4 A5) (rC c0 c1 c4 c5) := by
  have hl : (M0 prs rs).items.length = rs.length := List.length_replicate
  have hl5 : (M0 prs rs).lasts.length = prs.length := List.length_replicate
  have hi : ∀ i, (M0 prs rs).items.getD i [] = [] := fun i => getD_repl _ _ _
  have e4 : rowsOf (M0 prs rs) (rA A0 A1 A4 A5) (rC c0 c1 c4 c5) 4 = List.replicate rs.length (.slice none 0 0) := by
    show (List.range (M0 prs rs).items.length).map (fun i => Value.slice (rA A0 A1 A4 A5 (6 + i)) ((M0 prs rs).items.getD i []).length (rC c0 c1 c4 c5 (6 + i))) = _
    rw [hl]
    refine List.ext_getElem (by simp) fun x h1 h2 => ?_
    rw [List.getElem_map, List.getElem_range, hi, List.getElem_replicate, Nat.add_comm]
    rfl
  refine ⟨?_, fun j => ?_, ?_, ap, aps⟩
  · show Blk w R [.slice A0 prs.length c0, .slice A1 rs.length c1, .slice none 0 0, .slice none 0 0, .slice A4 (M0 prs rs).items.length c4, .slice A5 (M0 prs rs).lasts.length c5]
    rw [hl, hl5]
    exact hb
  · match j with
    | 0 => exact h0
    | 1 => exact h1
    | 2 => exact Row.nil _ _ _
    | 3 => exact Row.nil _ _ _
    | 4 =>
      show Row w 56 1 A4 c4 (M0 prs rs).items.length (rowsOf (M0 prs rs) (rA A0 A1 A4 A5) (rC c0 c1 c4 c5) 4)
      rw [e4, hl]; exact h4
    | 5 =>
      show Row w 37 3 A5 c5 (M0 prs rs).lasts.length _
      rw [hl5]; exact h5
    | i + 6 =>
      show Row w 2 1 none 0 ((M0 prs rs).items.getD i []).length (((M0 prs rs).items.getD i []).map (Value.int .i64))
      rw [hi]
      exact Row.nil _ _ _
  · show rowsOf (M0 prs rs) (rA A0 A1 A4 A5) (rC c0 c1 c4 c5) 4 = (List.range (M0 prs rs).items.length).map fun i => Value.slice (rA A0 A1 A4 A5 (6 + i)) (lensOf (M0 prs rs) (6 + i)) (rC c0 c1 c4 c5 (6 + i))
    show (List.range (M0 prs rs).items.length).map (fun i => Value.slice (rA A0 A1 A4 A5 (6 + i)) ((M0 prs rs).items.getD i []).length (rC c0 c1 c4 c5 (6 + i))) = _
    refine List.map_congr_left fun i _ => ?_
    rw [show lensOf (M0 prs rs) (6 + i) = ((M0 prs rs).items.getD i []).length by rw [Nat.add_comm]; rfl]
/-- a new set, or none -/
def RNew (w : World) (prs : List Int) (rs : List RIn) (e : Ending) (w' : World) : Prop :=
  (¬ OkNew prs rs ∧ e = .returned (.tuple #[.pointer none, .bool false]) ∧ Below w.heap.size w w') ∨
  (OkNew prs rs ∧ ∃ R A c, e = .returned (.tuple #[.pointer (some ⟨R, 0, none⟩), .bool true]) ∧ RefM w' R (M0 prs rs) A c ∧ (∀ k, Foot R A k → w.heap.size ≤ k) ∧ Below w.heap.size w w')
theorem made_outs (n : Nat) (hn : n ≤ 8) : (madeCells #[.int .i64 0, .int .i64 0, .bool false] (n * 3)).toList = ((List.replicate n ok).map ocs).flatten := by
  rcases (by omega : n = 0 ∨ n = 1 ∨ n = 2 ∨ n = 3 ∨ n = 4 ∨ n = 5 ∨ n = 6 ∨ n = 7 ∨ n = 8) with rfl | rfl | rfl | rfl | rfl | rfl | rfl | rfl | rfl <;> kernel_rfl
theorem made_nils (n : Nat) (hn : n ≤ 8) : (madeCells #[Value.slice none 0 0] n).toList = List.replicate n (.slice none 0 0) := by
  rcases (by omega : n = 0 ∨ n = 1 ∨ n = 2 ∨ n = 3 ∨ n = 4 ∨ n = 5 ∨ n = 6 ∨ n = 7 ∨ n = 8) with rfl | rfl | rfl | rfl | rfl | rfl | rfl | rfl | rfl <;> kernel_rfl
theorem Try.infoIts : (Try.prog.info? 56).map (fun i => (i.zero, i.size, i.bytes)) = some (some (.slice none 0 0), 1, 24) := by kernel_rfl
theorem Try.infoOuts : (Try.prog.info? 37).map (fun i => (i.zero, i.size, i.bytes)) = some (some (.agg #[.int .i64 0, .int .i64 0, .bool false]), 3, 24) := by kernel_rfl
theorem s1Itss : (Try.prog.info? 77).map (·.size) = some 1 := by kernel_rfl
theorem s1Outs : (Try.prog.info? 78).map (·.size) = some 1 := by kernel_rfl
theorem build0_int (w : World) : (Instr.buildSlice 28 0 #[]).run Try.prog w = .ok (.slice (some ⟨w.heap.size, 0, none⟩) 0 0) (w.alloc (.cells #[] 3)) := by
  obtain ⟨ti, hi, hz, hs1, hb1⟩ := info_parts Try.infoIt
  have hu := Try.underlying28
  have hc1 : (sizeOf 3).run Try.prog w = .ok 1 w := by simp [sizeOf, typeInfo, hi, hs1]
  have e : (Array.map (fun _ : Nat => (default : Value)) (Array.range 0)) = #[] := by kernel_rfl
  have hn : (newRow 3 #[]).run Try.prog w = .ok ⟨w.heap.size, 0, none⟩ (w.alloc (.cells #[] 3)) := by simp [newRow]
  simp only [Instr.buildSlice, Sem.run_bind, run_underlying hu, Result.andThen_ok, hc1]
  simp [Instr.fill, e, hn]
theorem build0_rin (w : World) : (Instr.buildSlice 31 0 #[]).run Try.prog w = .ok (.slice (some ⟨w.heap.size, 0, none⟩) 0 0) (w.alloc (.cells #[] 30)) := by
  obtain ⟨ti, hi, hz, hs1, hb1⟩ := info_parts Try.infoRin
  have hu := Try.underlying31
  have hc1 : (sizeOf 30).run Try.prog w = .ok 3 w := by simp [sizeOf, typeInfo, hi, hs1]
  have e : (Array.map (fun _ : Nat => (default : Value)) (Array.range 0)) = #[] := by kernel_rfl
  have hn : (newRow 30 #[]).run Try.prog w = .ok ⟨w.heap.size, 0, none⟩ (w.alloc (.cells #[] 30)) := by simp [newRow]
  simp only [Instr.buildSlice, Sem.run_bind, run_underlying hu, Result.andThen_ok, hc1]
  simp [Instr.fill, e, hn]
theorem build_ref (w : World) (A0 A1 : Option Addr) (n0 n1 c0 c1 : Nat) : (Instr.build 80 #[(0, .slice A0 n0 c0), (1, .slice A1 n1 c1)]).run Try.prog w = .ok (.agg #[.slice A0 n0 c0, .slice A1 n1 c1, .slice none 0 0, .slice none 0 0, .slice none 0 0, .slice none 0 0]) w := run_build w _ _ _ (by kernel_rfl)
/-- a row of none, of new cells -/
theorem row_new0 (w : World) (E : TypeId) (k : Nat) : Row (w.alloc (.cells #[] E)) E k (some ⟨w.heap.size, 0, none⟩) 0 0 [] :=
  ⟨by simp, .inr ⟨w.heap.size, 0, #[], rfl, Nat.zero_le _, (by first | exact heap_alloc_new w _ | simp), Nat.le_refl _, Nat.zero_le _, by simp, by simp⟩⟩
theorem flat_rin_len : ∀ l : List RIn, ((l.map rincells).flatten).length = l.length * 3
  | [] => rfl
  | x :: l => by rw [List.map_cons, List.flatten_cons, List.length_append, flat_rin_len l, List.length_cons]; simp [rincells]; omega
theorem ri_src {w : World} {A : Option Addr} {l : List Int} {B : Nat} (h : RI w B A l) : Src w A (l.map (Value.int .i64)) := fun hne => by
  have hl : l ≠ [] := fun e => hne (by rw [e]; rfl)
  obtain ⟨b, o, hA, _, hc⟩ := h hl
  refine ⟨_, hA, fun j u hu => ?_⟩
  have hj := (List.getElem?_eq_some_iff.1 hu).1
  have hj' : j < l.length := by simpa using hj
  rw [Addr.add_mid, hc j hj', ← (List.getElem?_eq_some_iff.1 hu).2, List.getElem_map]
theorem rr_src {w : World} {A : Option Addr} {l : List RIn} {B : Nat} (h : RR w B A l) : Src w A (l.map rincells).flatten := fun hne => by
  have hl : l ≠ [] := fun e => hne (by rw [e]; rfl)
  obtain ⟨b, o, hA, _, hc⟩ := h hl
  refine ⟨_, hA, fun j u hu => ?_⟩
  have hj := (List.getElem?_eq_some_iff.1 hu).1
  have hl3 := flat_rin_len l
  rw [hl3] at hj
  have hj3 : j / 3 < l.length := by omega
  have hpl : j / 3 < (l.map rincells).length := by simpa using hj3
  have hm : j % 3 < 3 := Nat.mod_lt _ (by decide)
  obtain ⟨hq, he⟩ := flat_get (rincells_len l) (p := j / 3) (f := j % 3) hpl hm
  have ej : j / 3 * 3 + j % 3 = j := by omega
  have hc3 := hc (j / 3) hj3
  rw [Addr.add_mid]
  have hu2 := (List.getElem?_eq_some_iff.1 hu).2
  have hv : u = (rincells l[j / 3])[j % 3]'(by simpa [rincells] using hm) := by
    rw [← hu2]
    simp only [ej] at he
    rw [he]
    simp
  rw [hv]
  rcases (by omega : j % 3 = 0 ∨ j % 3 = 1 ∨ j % 3 = 2) with h3 | h3 | h3
  · simp only [h3, rincells]; rw [show o + j = o + j / 3 * 3 by omega]; exact hc3.1
  · simp only [h3, rincells]; rw [show o + j = o + j / 3 * 3 + 1 by omega]; exact hc3.2.1
  · simp only [h3, rincells]; rw [show o + j = o + j / 3 * 3 + 2 by omega]; exact hc3.2.2
set_option maxRecDepth 100000 in
set_option maxHeartbeats 1000000 in
theorem rnew_calls (w : World) (Ap Ar : Option Addr) (cp cr : Nat) (prs : List Int) (rs : List RIn) (np nr : Nat) (hnp : np = prs.length) (hnr : nr = rs.length) (hp : RI w w.heap.size Ap prs) (hr : RR w w.heap.size Ar rs) (h10 : np ≤ 10) (h10r : nr ≤ 10) :
    Calls Try.prog 35 #[.slice Ap np cp, .slice Ar nr cr] w (RNew w prs rs) := by
  have HNP := Lib.hid hnp
  have HNR := Lib.hid hnr
  have HP := Lib.hid hp
  have HR := Lib.hid hr
  clear hnp hnr hp hr
  by_cases h1 : np < 1
  · have HNO : Hid (¬ OkNew prs rs) := Lib.hid fun h => by have := h.n1; have := HNP.out; omega
    obtain rfl : np = 0 := by omega
    clear h1
    go_enter Try.func35, Try.ntmps35
    go_wp2
    exact bodyPost_ret (v := .tuple #[.pointer none, .bool false]) (by simp [results, Try.results35, Sem.run_bind, Sem.run_pure]) rfl (.inl ⟨HNO.out, rfl, Below.refl _ _⟩)
  by_cases h2 : 8 < np
  · have HNO : Hid (¬ OkNew prs rs) := Lib.hid fun h => by have := h.n8; have := HNP.out; omega
    go_enter Try.func35, Try.ntmps35
    go_wp2
    exact bodyPost_ret (v := .tuple #[.pointer none, .bool false]) (by simp [results, Try.results35, Sem.run_bind, Sem.run_pure]) rfl (.inl ⟨HNO.out, rfl, Below.refl _ _⟩)
  by_cases h3 : 8 < nr
  · have HNO : Hid (¬ OkNew prs rs) := Lib.hid fun h => by have := h.m8; have := HNR.out; omega
    go_enter Try.func35, Try.ntmps35
    go_wp2
    exact bodyPost_ret (v := .tuple #[.pointer none, .bool false]) (by simp [results, Try.results35, Sem.run_bind, Sem.run_pure]) rfl (.inl ⟨HNO.out, rfl, Below.refl _ _⟩)
  go_enter Try.func35, Try.ntmps35
  go_wp2
  go_loopw [6] (fun s6 wr => ∃ k : Nat, k ≤ np ∧ s6 = .int .i64 (k : Int) ∧ w = wr ∧ Hid (∀ i (hi : i < prs.length), i < k → 0 ≤ prs[i] ∧ prs[i] ≤ 63)) (fun s6 _ => np - (intOf s6).toNat)
  case atStart => exact ⟨0, Nat.zero_le _, rfl, rfl, Lib.hid fun i _ h => absurd h (Nat.not_lt_zero _)⟩
  case round =>
    obtain ⟨k, hk, rfl, rfl, HG⟩ := hrel
    by_cases hlt : k < np
    · have hkl : k < prs.length := by rw [← HNP.out]; exact hlt
      obtain ⟨b, o, hA, hb, hc⟩ := HP.out.get hkl
      obtain ⟨x, hx⟩ : ∃ x, x = prs[k] := ⟨_, rfl⟩
      rw [← hx] at hc
      have HX : Hid (∃ h : k < prs.length, x = prs[k]) := Lib.hid ⟨hkl, hx⟩
      subst hA
      clear hb hx hkl
      by_cases hx1 : x < 0
      · have HNO : Hid (¬ OkNew prs rs) := Lib.hid fun h => by have := (h.pr x (by obtain ⟨h7, e⟩ := HX.out; rw [e]; exact List.getElem_mem _)).1; omega
        clear HG
        go_wp2
        exact bodyPost_ret (v := .tuple #[.pointer none, .bool false]) (by simp [results, Try.results35, Sem.run_bind, Sem.run_pure]) rfl (.inl ⟨HNO.out, rfl, Below.refl _ _⟩)
      · by_cases hx2 : 63 < x
        · have HNO : Hid (¬ OkNew prs rs) := Lib.hid fun h => by have := (h.pr x (by obtain ⟨h7, e⟩ := HX.out; rw [e]; exact List.getElem_mem _)).2; omega
          clear HG
          go_wp2
          exact bodyPost_ret (v := .tuple #[.pointer none, .bool false]) (by simp [results, Try.results35, Sem.run_bind, Sem.run_pure]) rfl (.inl ⟨HNO.out, rfl, Below.refl _ _⟩)
        · have HG2 : Hid (∀ i (hi : i < prs.length), i < k + 1 → 0 ≤ prs[i] ∧ prs[i] ≤ 63) := Lib.hid fun i hi hik => by
            by_cases e : i = k
            · subst e; obtain ⟨h7, e⟩ := HX.out; rw [← e]; omega
            · exact HG.out i hi (by omega)
          clear HG
          go_wp2
          go_roundw
          case rel => exact ⟨k + 1, by omega, by go_num, (by first | trivial | rfl), HG2⟩
          case measure => simp [intOf]; omega
    · obtain rfl : k = np := by omega
      have HPR : Hid (∀ p ∈ prs, 0 ≤ p ∧ p ≤ 63) := Lib.hid fun p hp => by
        obtain ⟨i, hi, rfl⟩ := List.mem_iff_getElem.1 hp
        exact HG.out i hi (by rw [HNP.out]; exact hi)
      clear HG
      go_wp2
      go_loopw [7] (fun s7 wx => ∃ j : Nat, j ≤ nr ∧ s7 = .int .i64 (j : Int) ∧ Hid (Below w.heap.size w wx) ∧ Hid (∀ i (hi : i < rs.length), i < j → rs[i].Ok)) (fun s7 _ => nr - (intOf s7).toNat)
      case atStart => exact ⟨0, Nat.zero_le _, rfl, Lib.hid (Below.refl _ _), Lib.hid fun i _ h => absurd h (Nat.not_lt_zero _)⟩
      case round =>
        rename_i wr
        obtain ⟨j, hj, rfl, HBW, HG⟩ := hrel
        by_cases hlt : j < nr
        · have hjl : j < rs.length := by rw [← HNR.out]; exact hlt
          obtain ⟨b, o, hA, hb, hc0, hc1, hc2⟩ := HR.out.get hjl
          obtain ⟨rk, rc, rm, hr⟩ : ∃ rk rc rm, rs[j] = ⟨rk, rc, rm⟩ := ⟨_, _, _, rfl⟩
          rw [hr] at hc0 hc1 hc2
          have HRG : Hid (wr.rangeAt b (o + j * 3) [.int .i64 rk, .int .i64 rc, .int .i64 rm]) := Lib.hid fun f v hv => by
            have hf : f < 3 := (List.getElem?_eq_some_iff.1 hv).1
            rcases (by omega : f = 0 ∨ f = 1 ∨ f = 2) with rfl | rfl | rfl
            · simp at hv; subst hv; exact (HBW.out.cell hb).trans hc0
            · simp at hv; subst hv; exact (HBW.out.cell hb).trans hc1
            · simp at hv; subst hv; exact (HBW.out.cell hb).trans hc2
          have HRJ : Hid (∃ h : j < rs.length, rs[j] = ⟨rk, rc, rm⟩) := Lib.hid ⟨hjl, hr⟩
          subst hA
          clear hb hc0 hc1 hc2 hjl hr
          go_wp2_with ((with_reducible show wpList _ _ _ (Oper.mk _ (Op.load 30 _) _ _ _ _ :: _) _ _); refine wpList_load_mid rfl 30 _ rfl b (o + j * 3) rfl [.int .i64 rk, .int .i64 rc, .int .i64 rm] _ HRG.out Try.underlying30 rfl sRin.info ?_)
          refine (may_calls wr ⟨rk, rc, rm⟩).mono ?_
          rintro e w6 ⟨rfl, hb6⟩
          have HB6 : Hid (Below w.heap.size w w6) := Lib.hid (HBW.out.trans (hb6.mono HBW.out.size))
          cases hmy : mayB ⟨rk, rc, rm⟩ with
          | false =>
            have HNO : Hid (¬ OkNew prs rs) := Lib.hid fun h => by
              obtain ⟨h7, e7⟩ := HRJ.out
              have := mayB_of (h.rs _ (List.getElem_mem h7))
              rw [e7, hmy] at this
              cases this
            clear hb6 HG HRG hmy
            go_wp2
            exact bodyPost_ret (v := .tuple #[.pointer none, .bool false]) (by simp [results, Try.results35, Sem.run_bind, Sem.run_pure]) rfl (.inl ⟨HNO.out, rfl, HB6.out⟩)
          | true =>
            have HG2 : Hid (∀ i (hi : i < rs.length), i < j + 1 → rs[i].Ok) := Lib.hid fun i hi hik => by
              by_cases e : i = j
              · subst e; obtain ⟨h7, e7⟩ := HRJ.out; rw [e7]; exact mayB_ok hmy
              · exact HG.out i hi (by omega)
            clear hb6 HG HRG hmy HBW
            go_wp2
            go_roundw
            case rel => exact ⟨j + 1, by omega, by go_num, HB6, HG2⟩
            case measure => simp [intOf]; omega
        · obtain rfl : j = nr := by omega
          have HOK : Hid (OkNew prs rs) := Lib.hid ⟨by have := HNP.out; omega, by have := HNP.out; omega, by have := HNR.out; omega, HPR.out, fun r hr => by
            obtain ⟨i, hi, rfl⟩ := List.mem_iff_getElem.1 hr
            exact HG.out i hi (by rw [HNR.out]; exact hi)⟩
          clear HG HPR
          have q0 := build0_int
          have q1 := build0_rin
          have q2 := build_ref
          have HS0 : Hid (Src (wr.alloc (.cells #[] 3)) Ap (prs.map (Value.int .i64))) := Lib.hid (ri_src ((HP.out.below HBW.out).below ((Below.refl w.heap.size wr).alloc HBW.out.size _)))
          go_wp2_with (at_builtin; refine wpList_app _ rfl _ _ 28 rfl 0 3 _ 1 8 Try.underlying28 Try.infoIt rfl (by decide) (some ⟨wr.heap.size, 0, none⟩) 0 0 [] rfl (row_new0 wr _ 1) Ap k cp (prs.map (Value.int .i64)) rfl (by rw [List.length_map, HNP.out]; omega) HS0.out (fun u hu => by obtain ⟨x, _, rfl⟩ := List.mem_map.1 hu; rfl) (by omega) (by unfold maxLen; omega) (Nat.zero_le _) ?_)
          intro A5 c5 w5 hr5 hg5 hb5
          have hwa : Below w.heap.size w (wr.alloc (.cells #[] 3)) := HBW.out.alloc HBW.out.size _
          have hsa : (wr.alloc (.cells #[] 3)).heap.size = wr.heap.size + 1 := by simp
          have hA5 : ∀ g, A5.map (·.block) = some g → wr.heap.size ≤ g ∧ g < w5.heap.size := fun g hg => by
            refine ⟨?_, Row.lt hr5 g hg⟩
            rcases hb5 with ⟨a, rfl, e⟩ | ⟨a, rfl, e⟩
            · rw [Option.map_some] at hg; injection hg with hg; omega
            · rw [Option.map_some] at hg; injection hg with hg; omega
          have hw5 : Below w.heap.size w w5 := hwa.trans (grown_below hg5 hwa.size fun x e => by injection e with e; have h7 := HBW.out.size; omega)
          have HR5 : Hid (Row w5 3 1 A5 c5 k (prs.map (Value.int .i64))) := Lib.hid hr5
          have HA5 := Lib.hid hA5
          have HW5 := Lib.hid hw5
          clear hr5 hg5 hb5 hwa hsa hA5 hw5 HS0
          have HS1 : Hid (Src (w5.alloc (.cells #[] 30)) Ar (rs.map rincells).flatten) := Lib.hid (rr_src ((HR.out.below HW5.out).below ((Below.refl w.heap.size w5).alloc HW5.out.size _)))
          have HLR : Hid ((rs.map rincells).flatten.length = j * 3) := Lib.hid (by rw [HNR.out]; exact flat_rin_len rs)
          go_wp2_with (at_builtin; refine wpList_app _ rfl _ _ 31 rfl 0 30 _ 3 24 Try.underlying31 Try.infoRin rfl (by decide) (some ⟨w5.heap.size, 0, none⟩) 0 0 [] rfl (row_new0 w5 _ 3) Ar j cr (rs.map rincells).flatten rfl HLR.out HS1.out (fun u hu => by obtain ⟨l, hl, hu⟩ := List.mem_flatten.1 hu; obtain ⟨x, _, rfl⟩ := List.mem_map.1 hl; exact rin_one u hu) (by omega) (by unfold maxLen; omega) (Nat.zero_le _) ?_)
          intro A7 c7 w7 hr7 hg7 hb7
          have hwa : Below w5.heap.size w5 (w5.alloc (.cells #[] 30)) := (Below.refl _ _).alloc (Nat.le_refl _) _
          have hsa : (w5.alloc (.cells #[] 30)).heap.size = w5.heap.size + 1 := by simp
          have hA7 : ∀ g, A7.map (·.block) = some g → w5.heap.size ≤ g ∧ g < w7.heap.size := fun g hg => by
            refine ⟨?_, Row.lt hr7 g hg⟩
            rcases hb7 with ⟨a, rfl, e⟩ | ⟨a, rfl, e⟩
            · rw [Option.map_some] at hg; injection hg with hg; omega
            · rw [Option.map_some] at hg; injection hg with hg; omega
          have hw57 : Below w5.heap.size w5 w7 := hwa.trans (grown_below hg7 hwa.size fun x e => by injection e with e; omega)
          have HR7 : Hid (Row w7 30 3 A7 c7 j (rs.map rincells).flatten) := Lib.hid hr7
          have HR57 : Hid (Row w7 3 1 A5 c5 k (prs.map (Value.int .i64))) := Lib.hid (HR5.out.below hw57)
          have HA7 := Lib.hid hA7
          have HW7 : Hid (Below w.heap.size w w7) := Lib.hid (HW5.out.trans (hw57.mono HW5.out.size))
          have HS57 : Hid (w5.heap.size ≤ w7.heap.size) := Lib.hid hw57.size
          clear hr7 hg7 hb7 hwa hsa hA7 hw57 HS1 HLR HR5
          go_wp2_with ((with_reducible show wpList _ _ _ (Oper.mk _ (Op.box 80 _) _ _ _ _ :: _) _ _); refine wpList_boxS (T := 80) rfl _ rfl (rset A5 A7 none none k j 0 0 c5 c7 0 0) rfl ?_)
          intro w8 hb8 hg8 hs8
          obtain ⟨R, hR⟩ : ∃ R, R = w7.heap.size := ⟨_, rfl⟩
          rw [← hR] at hb8 ⊢
          have HB8 := Lib.hid hb8
          have hw78 : Below w7.heap.size w7 w8 := grown_below hg8 (Nat.le_refl _) fun x e => by cases e
          have HR8 : Hid (Row w8 30 3 A7 c7 j (rs.map rincells).flatten) := Lib.hid (HR7.out.below hw78)
          have HR58 : Hid (Row w8 3 1 A5 c5 k (prs.map (Value.int .i64))) := Lib.hid (HR57.out.below hw78)
          have HW8 : Hid (Below w.heap.size w w8) := Lib.hid (HW7.out.trans (hw78.mono HW7.out.size))
          have HRE : Hid (R = w7.heap.size ∧ w8.heap.size = R + 1) := Lib.hid ⟨hR, by omega⟩
          clear hb8 hg8 hs8 hR hw78 HR7 HR57 HW7 q0 q1 q2
          obtain ⟨ti, hi, hz, hz1, hz2⟩ := info_parts Try.infoIts
          go_wp2_with ((with_reducible show wpList _ _ _ (Oper.mk _ (Op.makeSlice _ _ _) _ _ _ _ :: _) _ _); refine wpList_make_full w8 rfl _ _ 77 rfl 0 56 ti (.slice none 0 0) 1 Try.underlying77 hi hz hz1 .i64 .i64 _ _ j rfl rfl rfl rfl (by rw [hz2]; omega) (by unfold maxLen; omega) (Nat.zero_le _) ?_)
          intro w9 hr9 hg9
          have hw89 : Below w8.heap.size w8 w9 := grown_below hg9 (Nat.le_refl _) fun x e => by cases e
          have HR9 : Hid (Row w9 56 1 (some ⟨w8.heap.size, 0, none⟩) j j (List.replicate j (.slice none 0 0))) := Lib.hid (by rw [← made_nils j (by omega)]; exact hr9)
          have HB9 : Hid (Blk w9 R (rset A5 A7 none none k j 0 0 c5 c7 0 0)) := Lib.hid (HB8.out.below hw89 HB8.out.lt)
          have HR79 : Hid (Row w9 30 3 A7 c7 j (rs.map rincells).flatten) := Lib.hid (HR8.out.below hw89)
          have HR59 : Hid (Row w9 3 1 A5 c5 k (prs.map (Value.int .i64))) := Lib.hid (HR58.out.below hw89)
          have HW9 : Hid (Below w.heap.size w w9) := Lib.hid (HW8.out.trans (hw89.mono HW8.out.size))
          obtain ⟨g4, hg4⟩ : ∃ g, g = w8.heap.size := ⟨_, rfl⟩
          have HG4 : Hid (g4 = R + 1) := Lib.hid (by rw [hg4]; exact HRE.out.2)
          rw [← hg4] at HR9 ⊢
          clear hr9 hg9 hw89 HB8 HR8 HR58 HW8 hi hz hz1 hz2 hg4
          go_wp2_with ((with_reducible show wpList _ _ _ (Oper.mk _ (Op.store _ _ _) _ _ _ _ :: _) _ _); refine wpList_storeB rfl 77 _ _ rfl R 4 _ (.slice (some ⟨g4, 0, none⟩) j j) rfl rfl HB9.out (by show 4 < 6; omega) s1Itss rfl ?_)
          intro w10 hb10 hg10
          have HB10 : Hid (Blk w10 R (rset A5 A7 (some ⟨g4, 0, none⟩) none k j j 0 c5 c7 j 0)) := Lib.hid hb10
          have HN5 : Hid (A5.map (·.block) ≠ some R) := Lib.hid fun e => by have h8 := (HA5.out R e).2; have := HS57.out; have := HRE.out.1; omega
          have HN7 : Hid (A7.map (·.block) ≠ some R) := Lib.hid fun e => by have h8 := (HA7.out R e).2; have := HRE.out.1; omega
          have HR710 : Hid (Row w10 30 3 A7 c7 j (rs.map rincells).flatten) := Lib.hid (HR79.out.kept hg10 (.inr HN7.out))
          have HR510 : Hid (Row w10 3 1 A5 c5 k (prs.map (Value.int .i64))) := Lib.hid (HR59.out.kept hg10 (.inr HN5.out))
          have HR410 : Hid (Row w10 56 1 (some ⟨g4, 0, none⟩) j j (List.replicate j (.slice none 0 0))) := Lib.hid (HR9.out.kept hg10 (.inr fun e => by rw [Option.map_some] at e; injection e with e; have e : g4 = R := e; have := HG4.out; omega))
          have HWR : Hid (w.heap.size ≤ R) := Lib.hid (by rw [HRE.out.1]; exact Nat.le_trans HW5.out.size HS57.out)
          have HW10 : Hid (Below w.heap.size w w10) := Lib.hid (HW9.out.trans (grown_below hg10 HW9.out.size fun x e => by injection e with e; rw [← e]; exact HWR.out))
          clear hb10 hg10 HB9 HR79 HR59 HR9 HW9
          obtain ⟨ti, hi, hz, hz1, hz2⟩ := info_parts Try.infoOuts
          go_wp2_with ((with_reducible show wpList _ _ _ (Oper.mk _ (Op.makeSlice _ _ _) _ _ _ _ :: _) _ _); refine wpList_make_full w10 rfl _ _ 78 rfl 0 37 ti (.agg #[.int .i64 0, .int .i64 0, .bool false]) 3 Try.underlying78 hi hz hz1 .i64 .i64 _ _ k rfl rfl rfl rfl (by rw [hz2]; omega) (by unfold maxLen; omega) (Nat.zero_le _) ?_)
          intro w11 hr11 hg11
          have hw11 : Below w10.heap.size w10 w11 := grown_below hg11 (Nat.le_refl _) fun x e => by cases e
          obtain ⟨g5, hg5⟩ : ∃ g, g = w10.heap.size := ⟨_, rfl⟩
          have HG5 : Hid (g4 < g5 ∧ R < g5) := Lib.hid (by rw [hg5]; exact ⟨HR410.out.lt g4 rfl, HB10.out.lt⟩)
          have HR511 : Hid (Row w11 37 3 (some ⟨g5, 0, none⟩) k k ((List.replicate k ok).map ocs).flatten) := Lib.hid (by rw [← made_outs k (by omega), hg5]; exact hr11)
          rw [← hg5]
          have HB11 := Lib.hid (HB10.out.below hw11 HB10.out.lt)
          have HR711 := Lib.hid (HR710.out.below hw11)
          have HR011 := Lib.hid (HR510.out.below hw11)
          have HR411 := Lib.hid (HR410.out.below hw11)
          have HW11 : Hid (Below w.heap.size w w11) := Lib.hid (HW10.out.trans (hw11.mono HW10.out.size))
          clear hr11 hg11 hw11 hg5 HB10 HR710 HR510 HR410 HW10 hi hz hz1 hz2
          go_wp2_with ((with_reducible show wpList _ _ _ (Oper.mk _ (Op.store _ _ _) _ _ _ _ :: _) _ _); refine wpList_storeB rfl 78 _ _ rfl R 5 _ (.slice (some ⟨g5, 0, none⟩) k k) rfl rfl HB11.out (by show 5 < 6; omega) s1Outs rfl ?_)
          intro w12 hb12 hg12
          have HRES : Hid (RNew w prs rs (.returned (.tuple #[.pointer (some ⟨R, 0, none⟩), .bool true])) w12) := Lib.hid (by
            have n5 : (some (⟨g5, 0, none⟩ : Addr)).map (·.block) ≠ some R := fun e => by rw [Option.map_some] at e; injection e with e; have e : g5 = R := e; have := HG5.out.2; omega
            have n4 : (some (⟨g4, 0, none⟩ : Addr)).map (·.block) ≠ some R := fun e => by rw [Option.map_some] at e; injection e with e; have e : g4 = R := e; have := HG4.out; omega
            have hR := HRE.out.1
            have hs := HS57.out
            have h4 := HG4.out
            have h5 := HG5.out.1
            have hwr := HBW.out.size
            have hw5 := HW5.out.size
            have b0 : ∀ g, (rA A5 A7 (some ⟨g4, 0, none⟩) (some ⟨g5, 0, none⟩) 0).map (·.block) = some g → w.heap.size ≤ g ∧ g < w5.heap.size := fun g hg => ⟨Nat.le_trans hwr (HA5.out g hg).1, (HA5.out g hg).2⟩
            have b1 : ∀ g, (rA A5 A7 (some ⟨g4, 0, none⟩) (some ⟨g5, 0, none⟩) 1).map (·.block) = some g → w5.heap.size ≤ g ∧ g < R := fun g hg => ⟨(HA7.out g hg).1, by rw [hR]; exact (HA7.out g hg).2⟩
            have b4 : ∀ g, (rA A5 A7 (some ⟨g4, 0, none⟩) (some ⟨g5, 0, none⟩) 4).map (·.block) = some g → g = g4 := fun g hg => by
              have hg : some g4 = some g := hg
              injection hg with hg; exact hg.symm
            have b5 : ∀ g, (rA A5 A7 (some ⟨g4, 0, none⟩) (some ⟨g5, 0, none⟩) 5).map (·.block) = some g → g = g5 := fun g hg => by
              have hg : some g5 = some g := hg
              injection hg with hg; exact hg.symm
            have bb : ∀ j g, (rA A5 A7 (some ⟨g4, 0, none⟩) (some ⟨g5, 0, none⟩) j).map (·.block) = some g → (j = 0 ∧ w.heap.size ≤ g ∧ g < w5.heap.size) ∨ (j = 1 ∧ w5.heap.size ≤ g ∧ g < R) ∨ (j = 4 ∧ g = g4) ∨ (j = 5 ∧ g = g5) := fun j g hg => by
              match j, hg with
              | 0, hg => exact .inl ⟨rfl, b0 g hg⟩
              | 1, hg => exact .inr (.inl ⟨rfl, b1 g hg⟩)
              | 4, hg => exact .inr (.inr (.inl ⟨rfl, b4 g hg⟩))
              | 5, hg => exact .inr (.inr (.inr ⟨rfl, b5 g hg⟩))
              | 2, hg => cases hg
              | 3, hg => cases hg
              | n + 6, hg => cases hg
            refine .inr ⟨HOK.out, R, _, _, rfl, refm0 (A0 := A5) (A1 := A7) (A4 := some ⟨g4, 0, none⟩) (A5 := some ⟨g5, 0, none⟩) (c0 := c5) (c1 := c7) (c4 := j) (c5 := k) ?_ ?_ ?_ ?_ ?_ ?_ ?_, ?_, HW11.out.trans (grown_below hg12 HW11.out.size fun x e => by injection e with e; rw [← e]; exact HWR.out)⟩
            · rw [← HNP.out, ← HNR.out]; exact hb12
            · rw [← HNP.out]; exact HR011.out.kept hg12 (.inr HN5.out)
            · rw [← HNR.out]; exact HR711.out.kept hg12 (.inr HN7.out)
            · rw [← HNR.out]; exact HR411.out.kept hg12 (.inr n4)
            · rw [← HNP.out]; exact HR511.out.kept hg12 (.inr n5)
            · intro i l g hil hi hl
              have h1 := bb i g hi
              have h2 := bb l g hl
              omega
            · intro l hl
              have h1 := bb l R hl
              omega
            · rintro x (rfl | ⟨l, hl⟩)
              · exact HWR.out
              · have h1 := bb l x hl
                have := HWR.out
                omega)
          clear hb12 hg12
          go_wp2
          go_ret2
          exact HRES.out
end Go.Proofs.Ytgeffkdobnipgaa
/- No list in what came in is longer than memory reaches: kept by what lies inside. Over whatever program. -/
namespace Nac
open Go Go.RowKit
section
variable {H : Type} {P : Program}
def Sm (P : Program) (t : TypeId) (d : DataW H) : Prop := ∀ n ∈ d.weights P t, n ≤ reachBytes
theorem Sm.of_each {ts : List TypeId} {ds : List (DataW H)} (h : (DataW.weightsEach P ts ds).all (· ≤ reachBytes) = true) {j : Nat} {t : TypeId} {d : DataW H} (ht : ts[j]? = some t) (hd : ds[j]? = some d) : Sm P t d := fun n hn => by
  have := List.all_eq_true.1 h n (DataW.weights_mem_each ht hd n hn)
  simpa using this
theorem mem_weightsAll {e : TypeId} : ∀ {ds : List (DataW H)} {d : DataW H}, d ∈ ds → ∀ n ∈ d.weights P e, n ∈ DataW.weightsAll P e ds
  | d0 :: ds, d, hd, n, hn => by
    simp only [DataW.weightsAll, List.mem_append]
    rcases List.mem_cons.1 hd with rfl | hd
    · exact Or.inl hn
    · exact Or.inr (mem_weightsAll hd n hn)
theorem Sm.len {t e : TypeId} {el sp : List (DataW H)} (h : Sm P t (.slice el sp)) (hu : P.underlying t = some (.slice e)) : (el.length + sp.length) * P.bytesOf e ≤ reachBytes :=
  h _ (by simp [DataW.weights, hu])
theorem Sm.elem {t e : TypeId} {el sp : List (DataW H)} (h : Sm P t (.slice el sp)) (hu : P.underlying t = some (.slice e)) {d : DataW H} (hd : d ∈ el) : Sm P e d := fun n hn =>
  h n (by simp only [DataW.weights, hu, List.mem_cons, List.mem_append]; exact Or.inr (Or.inl (mem_weightsAll hd n hn)))
theorem Sm.part {t : TypeId} {fs : Array Field} {ps : List (DataW H)} (h : Sm P t (.agg ps)) (hu : P.underlying t = some (.struct fs)) {j : Nat} {f : Field} {d : DataW H} (hf : fs[j]? = some f) (hd : ps[j]? = some d) : Sm P f.type d := fun n hn =>
  h n (by
    simp only [DataW.weights, hu]
    exact DataW.weights_mem_each (by rw [List.getElem?_map, Array.getElem?_toList, hf]; rfl) hd n hn)
end
end Nac
/- What every law's row asks behind the walk: it returned true, and nothing that was there when the call began has turned: so the arguments read as before. Over whatever program. -/
namespace Nac
open Go Go.RowKit Go.WideShapes Go.ChangeShapes
section
variable {H : Type} {enc : TypeId × Value → H} {P : Program}
theorem trodAll_stays {W W' : World} {base : Nat} {sp' : Nat → Bool} (hl : laidOutB P = true) : ∀ {ts : List TypeId} {vs : List Value} {ds : List (DataW H)} {ps : List MemPlace}, (∀ t ∈ ts, P.readableRec t = true ∧ t < P.types.size) →
    DataW.TrodAll enc P W base (fun _ => true) true ts vs ds ps → (∀ p ∈ ps, W.sameAt W' p) → (∀ p ∈ ps, sp' p.block = true) → DataW.TrodAll enc P W' base sp' true ts vs ds ps := by
  intro ts
  induction ts with
  | nil =>
    intro vs ds ps _ h _ _
    obtain ⟨rfl, rfl, rfl⟩ := trodAll_nil h
    exact trodAll_mk0
  | cons t ts ih =>
    intro vs ds ps ht h hs hp
    obtain ⟨v, vs', d, ds', p, q, rfl, rfl, rfl, h0, r0⟩ := trodAll_cons h
    obtain ⟨h1, h2⟩ := ht t (by simp)
    exact trodAll_cons_mk (WideElems.Trod_stays hl h1 h2 h0 (fun x hx => hs x (by simp [hx])) (fun x hx => hp x (by simp [hx])))
      (ih (fun t' ht' => ht t' (by simp [ht'])) r0 (fun x hx => hs x (by simp [hx])) (fun x hx => hp x (by simp [hx])))
/-- THE LAW's POST: the bool 'true', the arguments unturned. -/
theorem law_post {f : Func} {s : ChangeSpec} {apart fresh handsOn again : Bool} {W W' : World} {args : Array Value} {ds gs : List (DataW H)} {before : List MemPlace} {tb : TypeId}
    (hl : laidOutB P = true) (hts : ∀ t ∈ f.params.toList, P.readableRec t = true ∧ t < P.types.size)
    (hW : DataW.Whole enc P f.params.toList s.vars apart W args.toList ds gs before) (hv0 : s.vars = []) (hb : Below W.heap.size W W')
    (hr : f.resultTypes = #[tb]) (htb : P.underlying tb = some .bool)
    (hspec : (s.fn H ds).results = [.lit (.bool true)] ∧ (s.fn H ds).args = ds ∧ (s.fn H ds).vars = []) :
    s.post enc P f apart fresh handsOn again W args (.bool true) W' := by
  have hlt : ∀ p ∈ before, p.block < W.heap.size := fun p hp => hW.lt p hp
  have hW0 := hW
  obtain ⟨p, q, hA, hV, hps, hz, hn⟩ := hW
  rw [hv0] at hV
  obtain ⟨rfl, rfl⟩ := trodVars_none hV
  rw [List.append_nil] at hps
  subst hps
  have hsame : ∀ x ∈ before, W.sameAt W' x := fun x hx => hb.same (hlt x hx)
  have hargs : ∀ sp : Nat → Bool, (∀ x ∈ before, sp x.block = true) → DataW.TrodAll enc P W' 0 sp true f.params.toList args.toList (s.fn H (ds ++ [])).args before := by
    intro sp hsp
    rw [List.append_nil, hspec.2.1]
    exact trodAll_stays hl hts hA hsame hsp
  have hold : ∀ x ∈ before, (fun b => decide (b < W.heap.size)) x.block = true := fun x hx => by simpa using hlt x hx
  have hres : ∀ (b : Nat) (sp : Nat → Bool) (hd : Bool), DataW.TrodAll enc P W' b sp hd f.resultTypes.toList ((Value.bool true).resultList f.resultTypes.size) (s.fn H (ds ++ [])).results [] := by
    intro b sp hd
    rw [List.append_nil, hspec.1, hr]
    exact trodAll_cons_mk (shut_bool htb true) trodAll_mk0
  refine ⟨ds, [], before, [], before, [], hW0, hres _ _ _, hargs _ hold, ?_, World.keptBut_mono (fun x hx => ⟨hx, Or.inr (Or.inl hx)⟩) (hb.frame (· ∈ before)), fun _ => ?_⟩
  · rw [List.append_nil, hspec.2.2, hv0]; rfl
  · refine ⟨ok_one (P := P) hr rfl (okWide_bool_mk htb true), _, [], before, ⟨before, [], trodAll_append (hargs (fun _ => true) (fun _ _ => rfl)) (hres 0 (fun _ => true) true), ?_, by simp, ?_, hn⟩, fun x hx _ => hx⟩
    · rw [hv0]; rfl
    · intro b off hp
      rw [hb.frozen (p := ⟨b, off, none⟩) (hlt _ hp)]
      exact hz b off hp
end
end Nac
/- Slices of plain elements that came in: ints, bools, resources, acts, shapes. -/
namespace Nac
open Go Go.RowKit
/-- the slice at A reads as xs, of which each has k cells -/
def RG {X : Type} (w : World) (B : Nat) (A : Option Addr) (k : Nat) (cells : X → List Value) (xs : List X) : Prop :=
  xs ≠ [] → ∃ b o, A = some ⟨b, o, none⟩ ∧ b < B ∧ ∀ j (h : j < xs.length) f v, (cells xs[j])[f]? = some v → w.cell? ⟨b, o + j * k + f, none⟩ = some v
theorem RG.get {X : Type} {w : World} {B : Nat} {A : Option Addr} {k : Nat} {cells : X → List Value} {xs : List X} (h : RG w B A k cells xs) {j : Nat} (hj : j < xs.length) :
    ∃ b o, A = some ⟨b, o, none⟩ ∧ b < B ∧ ∀ f v, (cells xs[j])[f]? = some v → w.cell? ⟨b, o + j * k + f, none⟩ = some v := by
  obtain ⟨b, o, hA, hb, hc⟩ := h (by intro e; subst e; simp at hj)
  exact ⟨b, o, hA, hb, hc j hj⟩
theorem RG.below {X : Type} {w w' : World} {B : Nat} {A : Option Addr} {k : Nat} {cells : X → List Value} {xs : List X} (h : RG w B A k cells xs) (hb : Below B w w') : RG w' B A k cells xs := fun hn => by
  obtain ⟨b, o, hA, hlt, hc⟩ := h hn
  exact ⟨b, o, hA, hlt, fun j hj f v hv => (hb.cell hlt).trans (hc j hj f v hv)⟩
theorem RG.take {X : Type} {w : World} {B : Nat} {A : Option Addr} {k : Nat} {cells : X → List Value} {xs : List X} (h : RG w B A k cells xs) (n : Nat) : RG w B A k cells (xs.take n) := fun hn => by
  obtain ⟨b, o, hA, hlt, hc⟩ := h (fun e => hn (by rw [e]; simp))
  refine ⟨b, o, hA, hlt, fun j hj f v hv => ?_⟩
  have hj2 : j < xs.length := by simp at hj; omega
  rw [List.getElem_take] at hv
  exact hc j hj2 f v hv
/-- an int -/
structure I64 (z : Int) : Prop where
  lo : -9223372036854775808 ≤ z
  hi : z ≤ 9223372036854775807
theorem I64.of {z : Int} (h : (Lit.int .i64 z).wf) : I64 z := by
  have : -9223372036854775808 ≤ z ∧ z ≤ 9223372036854775807 := by simpa [Lit.wf, IntKind.min, IntKind.max, IntKind.signed, IntKind.bits] using h
  exact ⟨this.1, this.2⟩
end Nac
namespace Go.Proofs.Ytgeffkdobnipgaa
open Go.RowKit Go.WideShapes Go.ChangeShapes Go.Deep Nac
section
variable {H : Type} {enc : TypeId × Value → H}
theorem spot_none {W : World} {a : Addr} {v : Value} (h : W.cell? a = some v) : a.spot = none := by
  cases hs : a.spot with
  | none => rfl
  | some x =>
    unfold World.cell? at h
    split at h
    · simp [hs] at h
    · cases h
theorem add_zero' (a : Addr) : a.add 0 = a := by simp [Addr.add]
theorem trod_rows {S E : TypeId} {k bs : Nat} (hu : Try.prog.underlying S = some (.slice E)) (hk : Try.prog.cellsOf E = k) (hkp : 0 < k) (hbs : Try.prog.bytesOf E = bs) (hbp : 0 < bs) {X : Type} [Inhabited X] (cells : X → List Value) (fits : X → Prop) (hcl : ∀ x, (cells x).length = k)
    {W : World} (helem : ∀ {fuel : Nat} {cs : List Value} {y : DataW H × List MemPlace}, DataW.trod enc Try.prog W 0 (fun _ => true) true fuel E cs = some y → ∃ x, cs = cells x ∧ fits x)
    {fuel : Nat} {v : Value} {y : DataW H × List MemPlace} (h : DataW.trod enc Try.prog W 0 (fun _ => true) true fuel S [v] = some y) (hs : Sm Try.prog S y.1) :
    ∃ (A : Option Addr) (c : Nat) (xs : List X), v = .slice A xs.length c ∧ xs.length ≤ c ∧ RG W W.heap.size A k cells xs ∧ xs.length ≤ 140737488351232 ∧ ∀ x ∈ xs, fits x := by
  rcases open_slice hu h with ⟨hcs, hx⟩ | ⟨a, len, cap, m, n, D, Pl, hcs, _, hl, hm, hmm, hx, hi⟩
  · simp at hcs
    subst hcs
    exact ⟨none, 0, [], rfl, Nat.le_refl _, fun h => absurd rfl h, by simp, by simp⟩
  · simp at hcs
    subst hcs
    simp only [if_true] at hmm
    subst hmm
    subst hx
    have hsl := hs.len hu
    rw [hbs] at hsl
    simp only [List.length_map, List.length_range, reachBytes] at hsl
    have hlb : len ≤ len * bs := Nat.le_mul_of_pos_right _ hbp
    have hlb2 : len * bs ≤ (len + (m - len)) * bs := Nat.mul_le_mul_right _ (by omega)
    have hex : ∀ i, i < len → ∃ x : X, (∀ f v, (cells x)[f]? = some v → W.cell? ((a.add (i * k)).add f) = some v) ∧ fits x := by
      intro i hil
      obtain ⟨cs', h1, h2⟩ := hi i (by omega)
      rw [hk] at h1
      obtain ⟨_, hcl', hat⟩ := World.cells?_some h1
      obtain ⟨x, rfl, hfit⟩ := helem h2
      refine ⟨x, fun f v hv => ?_, hfit⟩
      have hf : f < k := by rw [← hcl x]; exact (List.getElem?_eq_some_iff.1 hv).1
      have h3 := hat f hf
      exact h3.trans hv
    obtain ⟨Y, hY⟩ := choose_lt hex
    have hlen : ((List.range len).map Y).length = len := by simp
    refine ⟨some a, m, (List.range len).map Y, by rw [hlen], by omega, fun hne => ?_, by omega, fun x hx => ?_⟩
    · have hpos : 0 < len := by
        rcases Nat.eq_zero_or_pos len with h | h
        · subst h; simp at hne
        · exact h
      have h0 := (hY 0 hpos).1 0 _ (List.getElem?_eq_getElem (by rw [hcl]; exact hkp))
      rw [Nat.zero_mul, add_zero', add_zero'] at h0
      have hblk : a.block < W.heap.size := block_lt_of_cell h0
      have hspot := spot_none h0
      obtain ⟨b, o, s⟩ := a
      simp only at hspot
      subst hspot
      refine ⟨b, o, rfl, hblk, fun j hj f v hv => ?_⟩
      have hj' : j < len := by omega
      have e : ((List.range len).map Y)[j] = Y j := by simp
      rw [e] at hv
      have h1 := (hY j hj').1 f v hv
      rw [Addr.add_mid, Addr.add_mid] at h1
      exact h1
    · obtain ⟨i, hi, rfl⟩ := List.mem_map.1 hx
      exact (hY i (by simpa using hi)).2
theorem elem_int {W : World} {fuel : Nat} {cs : List Value} {y : DataW H × List MemPlace} (h : DataW.trod enc Try.prog W 0 (fun _ => true) true fuel 3 cs = some y) : ∃ z : Int, cs = [.int .i64 z] ∧ I64 z := by
  obtain ⟨z, e, _, hw⟩ := DataW.trod_int Try.underlying3 h
  exact ⟨z, e, I64.of hw⟩
theorem elem_i64 {W : World} {fuel : Nat} {cs : List Value} {y : DataW H × List MemPlace} (h : DataW.trod enc Try.prog W 0 (fun _ => true) true fuel 2 cs = some y) : ∃ z : Int, cs = [.int .i64 z] ∧ I64 z := by
  obtain ⟨z, e, _, hw⟩ := DataW.trod_int Try.underlying2 h
  exact ⟨z, e, I64.of hw⟩
theorem elem_bool {W : World} {fuel : Nat} {cs : List Value} {y : DataW H × List MemPlace} (h : DataW.trod enc Try.prog W 0 (fun _ => true) true fuel 4 cs = some y) : ∃ z : Bool, cs = [.bool z] ∧ True := by
  obtain ⟨z, e, _⟩ := DataW.trod_bool Try.underlying4 h
  exact ⟨z, e, trivial⟩
def c1B (b : Bool) : List Value := [.bool b]
def c1I (z : Int) : List Value := [.int .i64 z]
/-- a []bool that came in -/
theorem open_bools {W : World} {base : Nat} {v : Value} {d : DataW H} {p : List MemPlace} (hv : Value.okWide Try.prog W .any base 23 v) (h : DataW.Trod enc Try.prog W 0 (fun _ => true) true 23 v d p) (hs : Sm Try.prog 23 d) :
    ∃ A c xs, v = .slice A xs.length c ∧ xs.length ≤ c ∧ RG W W.heap.size A 1 c1B xs ∧ xs.length ≤ 140737488351232 ∧ ∀ x ∈ xs, True := by
  obtain ⟨a0, len, cap, rfl⟩ := okWide_slice Try.underlying23 hv
  obtain ⟨fuel, hf⟩ := h
  have hf' : DataW.trod enc Try.prog W 0 (fun _ => true) true fuel 23 [.slice a0 len cap] = some (d, p) := hf
  exact trod_rows Try.underlying23 (by kernel_rfl) (by decide) (bs := 1) (by kernel_rfl) (by decide) c1B (fun _ => True) (fun _ => rfl) (fun h => elem_bool h) hf' hs
end
end Go.Proofs.Ytgeffkdobnipgaa
/- Shapes and acts that came in. -/
namespace Nac.Procs
/-- an act: what, of whom, a number, ticks -/
structure ActI where
  kind : Int
  n : Int
  ticks : Int
  v : Int
instance : Inhabited ActI := ⟨⟨0, 0, 0, 0⟩⟩
end Nac.Procs
namespace Go.Proofs.Ytgeffkdobnipgaa
open Go.RowKit Go.WideShapes Go.ChangeShapes Go.Deep Nac Nac.Procs
def c3R (x : RIn) : List Value := [.int .i64 x.kind, .int .i64 x.count, .int .i64 x.most]
def c4A (x : ActI) : List Value := [.int .i64 x.kind, .int .i64 x.n, .int .i64 x.ticks, .int .i64 x.v]
instance : Inhabited RIn := ⟨⟨0, 0, 0⟩⟩
section
variable {H : Type} {enc : TypeId × Value → H}
theorem elem_rin {W : World} {fuel : Nat} {cs : List Value} {y : DataW H × List MemPlace} (h : DataW.trod enc Try.prog W 0 (fun _ => true) true fuel 30 cs = some y) : ∃ x : RIn, cs = c3R x ∧ (I64 x.kind ∧ I64 x.count ∧ I64 x.most) := by
  obtain ⟨ys, n, _, rfl, hlen, hyl, hf⟩ := DataW.trod_struct Try.underlying30 h
  have hc : Try.prog.cellsOf 30 = 3 := by kernel_rfl
  rw [hc] at hlen
  match cs, hlen with
  | [v0, v1, v2], _ =>
    match ys, hyl with
    | [y0, y1, y2], _ =>
      have g0 := hf 0 _ rfl
      have g1 := hf 1 _ rfl
      have g2 := hf 2 _ rfl
      have k0 : DataW.trod enc Try.prog W 0 (fun _ => true) true n 3 [v0] = some y0 := g0
      have k1 : DataW.trod enc Try.prog W 0 (fun _ => true) true n 3 [v1] = some y1 := g1
      have k2 : DataW.trod enc Try.prog W 0 (fun _ => true) true n 3 [v2] = some y2 := g2
      obtain ⟨z0, e0, w0⟩ := elem_int k0
      obtain ⟨z1, e1, w1⟩ := elem_int k1
      obtain ⟨z2, e2, w2⟩ := elem_int k2
      simp at e0 e1 e2
      exact ⟨⟨z0, z1, z2⟩, by rw [e0, e1, e2]; rfl, w0, w1, w2⟩
theorem elem_act {W : World} {fuel : Nat} {cs : List Value} {y : DataW H × List MemPlace} (h : DataW.trod enc Try.prog W 0 (fun _ => true) true fuel 74 cs = some y) : ∃ x : ActI, cs = c4A x ∧ (I64 x.kind ∧ I64 x.n ∧ I64 x.ticks ∧ I64 x.v) := by
  obtain ⟨ys, n, _, rfl, hlen, hyl, hf⟩ := DataW.trod_struct Try.underlying74 h
  have hc : Try.prog.cellsOf 74 = 4 := by kernel_rfl
  rw [hc] at hlen
  match cs, hlen with
  | [v0, v1, v2, v3], _ =>
    match ys, hyl with
    | [y0, y1, y2, y3], _ =>
      have g0 := hf 0 _ rfl
      have g1 := hf 1 _ rfl
      have g2 := hf 2 _ rfl
      have g3 := hf 3 _ rfl
      have k0 : DataW.trod enc Try.prog W 0 (fun _ => true) true n 3 [v0] = some y0 := g0
      have k1 : DataW.trod enc Try.prog W 0 (fun _ => true) true n 3 [v1] = some y1 := g1
      have k2 : DataW.trod enc Try.prog W 0 (fun _ => true) true n 3 [v2] = some y2 := g2
      have k3 : DataW.trod enc Try.prog W 0 (fun _ => true) true n 2 [v3] = some y3 := g3
      obtain ⟨z0, e0, w0⟩ := elem_int k0
      obtain ⟨z1, e1, w1⟩ := elem_int k1
      obtain ⟨z2, e2, w2⟩ := elem_int k2
      obtain ⟨z3, e3, w3⟩ := elem_i64 k3
      simp at e0 e1 e2 e3
      exact ⟨⟨z0, z1, z2, z3⟩, by rw [e0, e1, e2, e3]; rfl, w0, w1, w2, w3⟩
/-- an argument of acts -/
theorem open_pacts {W : World} {base : Nat} {v : Value} {d : DataW H} {p : List MemPlace} (hv : Value.okWide Try.prog W .any base 44 v) (h : DataW.Trod enc Try.prog W 0 (fun _ => true) true 44 v d p) (hs : Sm Try.prog 44 d) :
    ∃ A c xs, v = .slice A xs.length c ∧ xs.length ≤ c ∧ RG W W.heap.size A 4 c4A xs ∧ xs.length ≤ 140737488351232 ∧ ∀ x ∈ xs, I64 x.kind ∧ I64 x.n ∧ I64 x.ticks ∧ I64 x.v := by
  obtain ⟨a0, len, cap, rfl⟩ := okWide_slice Try.underlying44 hv
  obtain ⟨fuel, hf⟩ := h
  have hf' : DataW.trod enc Try.prog W 0 (fun _ => true) true fuel 44 [.slice a0 len cap] = some (d, p) := hf
  exact trod_rows Try.underlying44 (by kernel_rfl) (by decide) (bs := 32) (by kernel_rfl) (by decide) c4A _ (fun _ => rfl) (fun h => elem_act h) hf' hs
/-- a shape -/
theorem open_pshape {W : World} {base : Nat} {v : Value} {d : DataW H} {p : List MemPlace} (hv : Value.okWide Try.prog W .any base 43 v) (h : DataW.Trod enc Try.prog W 0 (fun _ => true) true 43 v d p) (hs : Sm Try.prog 43 d) :
    ∃ (Ap : Option Addr) (cp : Nat) (lp : List Int) (Ar : Option Addr) (cr : Nat) (lr : List RIn), v = .agg #[.slice Ap lp.length cp, .slice Ar lr.length cr] ∧ RG W W.heap.size Ap 1 c1I lp ∧ RG W W.heap.size Ar 3 c3R lr ∧ lp.length ≤ 140737488351232 ∧ lr.length ≤ 140737488351232 ∧ lp.length ≤ cp ∧ lr.length ≤ cr := by
  obtain ⟨cs, rfl, hsz⟩ := okWide_struct Try.underlying43 hv
  obtain ⟨fuel, hf⟩ := h
  obtain ⟨ys, n, _, hd, hlen, hyl, hg⟩ := DataW.trod_struct Try.underlying43 hf
  have hc : Try.prog.cellsOf 43 = 2 := by kernel_rfl
  rw [hc] at hlen
  obtain ⟨hd, _⟩ := Prod.mk.injEq .. ▸ hd
  subst hd
  obtain ⟨l⟩ := cs
  match l, hlen with
  | [v0, v1], _ =>
    match ys, hyl with
    | [y0, y1], _ =>
      have g0 := hg 0 _ rfl
      have g1 := hg 1 _ rfl
      have k0 : DataW.trod enc Try.prog W 0 (fun _ => true) true n 28 [v0] = some y0 := g0
      have k1 : DataW.trod enc Try.prog W 0 (fun _ => true) true n 31 [v1] = some y1 := g1
      obtain ⟨Ap, cp, lp, rfl, h1, h2, h3, _⟩ := trod_rows (k := 1) Try.underlying28 (by kernel_rfl) (by decide) (bs := 8) (by kernel_rfl) (by decide) c1I (fun z => I64 z) (fun _ => rfl) (fun h => elem_int h) k0 (hs.part Try.underlying43 (j := 0) rfl rfl)
      obtain ⟨Ar, cr, lr, rfl, q1, q2, q3, _⟩ := trod_rows (k := 3) Try.underlying31 (by kernel_rfl) (by decide) (bs := 24) (by kernel_rfl) (by decide) c3R (fun x => I64 x.kind ∧ I64 x.count ∧ I64 x.most) (fun _ => rfl) (fun h => elem_rin h) k1 (hs.part Try.underlying43 (j := 1) rfl rfl)
      exact ⟨Ap, cp, lp, Ar, cr, lr, rfl, h2, q2, h3, q3, h1, q1⟩
end
end Go.Proofs.Ytgeffkdobnipgaa
/- few: a shape of ten at most of each. -/
namespace Go.Proofs.Ytgeffkdobnipgaa
open Go.RowKit Nac Nac.Procs
theorem add0 (A : Option Addr) (k : Nat) : A.map (·.add (0 * k)) = A := by
  cases A with
  | none => rfl
  | some a => rw [Option.map_some, Nat.zero_mul]; simp [Addr.add]
theorem run_head10i (w : World) (A : Option Addr) (n c : Nat) (h : 10 ≤ c) : (Instr.sliceAt 28 (.slice A n c) none (some (.int .i64 10)) none).run Try.prog w = .ok (.slice A 10 c) w := by
  have hu := Try.underlying28
  have hc1 : (sizeOf 3).run Try.prog w = .ok 1 w := by
    obtain ⟨i, hi, _, hs, _⟩ := info_parts Try.infoIt
    simp [sizeOf, typeInfo, hi, hs]
  have hne : ¬ c = 0 := by omega
  have h' : ¬ ((c : Int) < 10) := by omega
  have := add0 A 1
  rw [Nat.zero_mul] at this
  simp [Instr.sliceAt, Instr.slice, run_underlying hu, Instr.sliceBounds, Instr.sliceBound, asIntOf, hc1, h, h', hne, this]
theorem run_head10r (w : World) (A : Option Addr) (n c : Nat) (h : 10 ≤ c) : (Instr.sliceAt 31 (.slice A n c) none (some (.int .i64 10)) none).run Try.prog w = .ok (.slice A 10 c) w := by
  have hu := Try.underlying31
  have hc1 : (sizeOf 30).run Try.prog w = .ok 3 w := by
    obtain ⟨i, hi, _, hs, _⟩ := info_parts Try.infoRin
    simp [sizeOf, typeInfo, hi, hs]
  have hne : ¬ c = 0 := by omega
  have h' : ¬ ((c : Int) < 10) := by omega
  have := add0 A 3
  rw [Nat.zero_mul] at this
  simp [Instr.sliceAt, Instr.slice, run_underlying hu, Instr.sliceBounds, Instr.sliceBound, asIntOf, hc1, h, h', hne, this]
theorem sShp : SInfo 43 2 := ⟨by kernel_rfl, _, Try.underlying43, rfl⟩
theorem zShp : ((Try.prog.info? 43).bind (·.zero)) = some (.agg (([.slice none 0 0, .slice none 0 0] : List Value).toArray)) := by kernel_rfl
def shp (Ap : Option Addr) (np cp : Nat) (Ar : Option Addr) (nr cr : Nat) : List Value := [.slice Ap np cp, .slice Ar nr cr]
theorem shp_one (Ap : Option Addr) (np cp : Nat) (Ar : Option Addr) (nr cr : Nat) : ∀ v ∈ shp Ap np cp Ar nr cr, v.oneCell' = true := by intro v hv; simp [shp] at hv; rcases hv with rfl | rfl <;> rfl
def few10 (n : Nat) : Nat := if 10 < n then 10 else n
theorem below_two (w : World) (a b : Obj) : Below w.heap.size w ((w.alloc a).alloc b) := ((Below.refl _ _).alloc (Nat.le_refl _) a).alloc ((Below.refl w.heap.size w).alloc (Nat.le_refl _) a).size b
set_option maxRecDepth 100000 in
set_option maxHeartbeats 1000000 in
theorem few_calls (w : World) (Ap : Option Addr) (np cp : Nat) (Ar : Option Addr) (nr cr : Nat) (hp : np ≤ cp) (hr : nr ≤ cr) (hp8 : np ≤ 140737488351232) (hr8 : nr ≤ 140737488351232) :
    Calls Try.prog 34 #[.agg #[.slice Ap np cp, .slice Ar nr cr]] w (RetVb w (.agg (shp Ap (few10 np) cp Ar (few10 nr) cr).toArray)) := by
  by_cases h1 : 10 < np
  · have E1 : Hid (few10 np = 10) := Lib.hid (if_pos h1)
    have SP : Hid (∀ w, (Instr.sliceAt 28 (.slice Ap np cp) none (some (.int .i64 10)) none).run Try.prog w = .ok (.slice Ap 10 cp) w) := Lib.hid fun w => run_head10i w Ap np cp (by omega)
    by_cases h2 : 10 < nr
    · have E2 : Hid (few10 nr = 10) := Lib.hid (if_pos h2)
      have SR : Hid (∀ w, (Instr.sliceAt 31 (.slice Ar nr cr) none (some (.int .i64 10)) none).run Try.prog w = .ok (.slice Ar 10 cr) w) := Lib.hid fun w => run_head10r w Ar nr cr (by omega)
      rw [E1.out, E2.out]
      have q1 := SP.out
      have q2 := SR.out
      clear E1 E2 SP SR
      go_enter Try.func34, Try.ntmps34
      go_wp2
      exact bodyPost_ret (v := .agg (shp Ap 10 cp Ar 10 cr).toArray) (by simp [results, Try.results34, go_sem, shp]) rfl ⟨rfl, below_two w _ _⟩
    · have E2 : Hid (few10 nr = nr) := Lib.hid (if_neg h2)
      have n2 : ¬ (10 < (nr : Int)) := by omega
      rw [E1.out, E2.out]
      have q1 := SP.out
      clear E1 E2 SP
      go_enter Try.func34, Try.ntmps34
      go_wp2
      exact bodyPost_ret (v := .agg (shp Ap 10 cp Ar nr cr).toArray) (by simp [results, Try.results34, go_sem, shp]) rfl ⟨rfl, below_two w _ _⟩
  · have E1 : Hid (few10 np = np) := Lib.hid (if_neg h1)
    have n1 : ¬ (10 < (np : Int)) := by omega
    by_cases h2 : 10 < nr
    · have E2 : Hid (few10 nr = 10) := Lib.hid (if_pos h2)
      have SR : Hid (∀ w, (Instr.sliceAt 31 (.slice Ar nr cr) none (some (.int .i64 10)) none).run Try.prog w = .ok (.slice Ar 10 cr) w) := Lib.hid fun w => run_head10r w Ar nr cr (by omega)
      rw [E1.out, E2.out]
      have q2 := SR.out
      clear E1 E2 SR
      go_enter Try.func34, Try.ntmps34
      go_wp2
      exact bodyPost_ret (v := .agg (shp Ap np cp Ar 10 cr).toArray) (by simp [results, Try.results34, go_sem, shp]) rfl ⟨rfl, below_two w _ _⟩
    · have E2 : Hid (few10 nr = nr) := Lib.hid (if_neg h2)
      have n2 : ¬ (10 < (nr : Int)) := by omega
      rw [E1.out, E2.out]
      clear E1 E2
      go_enter Try.func34, Try.ntmps34
      go_wp2
      exact bodyPost_ret (v := .agg (shp Ap np cp Ar nr cr).toArray) (by simp [results, Try.results34, go_sem, shp]) rfl ⟨rfl, below_two w _ _⟩
end Go.Proofs.Ytgeffkdobnipgaa
/- What no call of procs changes: how many there are, priorities, kinds, mosts; who runs has the greatest priority. No program in sight. -/
namespace Nac.Procs
structure Same (P P' : PSet) : Prop where
  n : P'.ps.length = P.ps.length
  m : P'.rs.length = P.rs.length
  pr : ∀ p, (P'.proc p).pr = (P.proc p).pr
  kind : ∀ r, (P'.rsc r).kind = (P.rsc r).kind
  most : ∀ r, (P'.rsc r).most = (P.rsc r).most
variable {P P' P2 : PSet}
theorem Same.refl (P : PSet) : Same P P := ⟨rfl, rfl, fun _ => rfl, fun _ => rfl, fun _ => rfl⟩
theorem Same.trans (h : Same P P') (h2 : Same P' P2) : Same P P2 := ⟨h2.n.trans h.n, h2.m.trans h.m, fun p => (h2.pr p).trans (h.pr p), fun r => (h2.kind r).trans (h.kind r), fun r => (h2.most r).trans (h.most r)⟩
theorem Same.setP (P : PSet) (p : Nat) {y : Prc} (hy : y.pr = (P.proc p).pr) : Same P (P.setP p y) := ⟨ps_setP p y, rfl, fun q => by
  by_cases e : q = p
  · subst e
    by_cases hq : q < P.ps.length
    · rw [proc_setP hq, hy]
    · rw [proc_out (by rw [ps_setP]; omega), proc_out (by omega)]
  · rw [proc_setP_ne e], fun _ => rfl, fun _ => rfl⟩
theorem Same.setR (P : PSet) (r : Nat) {y : Rsc} (hk : y.kind = (P.rsc r).kind) (hm : y.most = (P.rsc r).most) : Same P (P.setR r y) := by
  refine ⟨rfl, rs_setR r y, fun _ => rfl, fun q => ?_, fun q => ?_⟩
  · by_cases e : q = r
    · subst e
      by_cases hq : q < P.rs.length
      · rw [rsc_setR hq, hk]
      · rw [rsc_out (by rw [rs_setR]; omega), rsc_out (by omega)]
    · rw [rsc_setR_ne e]
  · by_cases e : q = r
    · subst e
      by_cases hq : q < P.rs.length
      · rw [rsc_setR hq, hm]
      · rw [rsc_out (by rw [rs_setR]; omega), rsc_out (by omega)]
    · rw [rsc_setR_ne e]
theorem Same.ready (P : PSet) (l : List Nat) : Same P { P with ready := l } := ⟨rfl, rfl, fun _ => rfl, fun _ => rfl, fun _ => rfl⟩
theorem Same.leave (P : PSet) (p : Nat) : Same P (leave P p) := by
  unfold Nac.Procs.leave
  refine Same.trans ?_ (Same.setP _ p (by rw [unq_proc]; rfl))
  refine Same.trans (Same.ready P (without P.ready p)) ?_
  unfold unq
  split
  · exact Same.setR _ _ rfl rfl
  · exact Same.refl _
theorem Same.wake (P : PSet) (p : Nat) : Same P (wake P p) := by
  unfold Nac.Procs.wake
  exact (Same.setP P p (y := { P.proc p with st := 1 }) rfl).trans (Same.ready _ _)
theorem Same.release (P : PSet) (p : Nat) (o : Out) : Same P (release P p o) := by
  unfold Nac.Procs.release
  exact ((Same.leave P p).trans (Same.setP (Nac.Procs.leave P p) p (y := { (Nac.Procs.leave P p).proc p with last := o }) rfl)).trans (Same.wake _ p)
theorem Same.park (P : PSet) (p : Nat) (r ticks item : Int) : Same P (park P p r ticks item) := by
  unfold Nac.Procs.park
  simp only
  split
  · exact ((Same.leave P p).trans (Same.setP (Nac.Procs.leave P p) p (y := { (Nac.Procs.leave P p).proc p with st := 2, res := r, left := ticks, item := item }) rfl)).trans (Same.setR _ _ rfl rfl)
  · exact (Same.leave P p).trans (Same.setP (Nac.Procs.leave P p) p (y := { (Nac.Procs.leave P p).proc p with st := 2, res := r, left := ticks, item := item }) rfl)
theorem Same.start (P : PSet) (p : Int) : Same P (startS P p).2 := by
  unfold startS
  split
  · split
    · exact Same.wake _ _
    · exact Same.refl _
  · exact Same.refl _
theorem Same.stop (P : PSet) (p : Int) : Same P (stopS P p).2 := by
  unfold stopS
  split
  · split
    · exact Same.refl _
    · exact (Same.leave P _).trans (Same.setP _ _ rfl)
  · exact Same.refl _
theorem Same.sleep (P : PSet) (t : Int) : Same P (sleepS P t).2 := by
  unfold sleepS
  split
  · exact Same.refl _
  · split
    · exact Same.refl _
    · split
      · exact (Same.leave P _).trans (Same.wake _ _)
      · show Same P (Nac.Procs.park P (runI P).toNat (-1) t 0)
        exact Same.park _ _ _ _ _
theorem Same.takeB (P : PSet) (k : Nat) : Same P (takeB P k) := by
  unfold Nac.Procs.takeB
  simp only
  refine Same.trans ?_ (Same.setR _ k rfl rfl)
  split
  · exact Same.setR _ _ rfl rfl
  · refine Same.trans ?_ (Same.release _ _ _)
    exact Same.setR _ _ rfl rfl
theorem Same.take (P : PSet) (r t : Int) : Same P (takeS P r t).2 := by
  unfold takeS
  split
  · exact Same.refl _
  · split
    · split
      · exact Same.refl _
      · show Same P (Nac.Procs.park P (runI P).toNat r t 0)
        exact Same.park _ _ _ _ _
    · split
      · exact Same.setR _ _ rfl rfl
      · split
        · exact Same.takeB _ _
        · exact Same.refl _
theorem Same.more (P : PSet) (k : Nat) : Same P (more P k).2 := by
  unfold Nac.Procs.more
  split
  · exact Same.release _ _ _
  · split
    · exact Same.refl _
    · exact Same.setR _ _ rfl rfl
theorem Same.wakeAll : ∀ (l : List Nat) (P : PSet), Same P (wakeAll P l)
  | [], P => Same.refl P
  | f :: l, P => (Same.release P f ok).trans (Same.wakeAll l _)
theorem Same.give (P : PSet) (r v t : Int) : Same P (giveS P r v t).2 := by
  unfold giveS
  split
  · exact Same.refl _
  · split
    · show Same P (Nac.Procs.wakeAll (upR P r.toNat) (P.rsc r.toNat).q)
      refine Same.trans ?_ (Same.wakeAll _ _)
      exact Same.setR _ _ rfl rfl
    · split
      · unfold giveB
        split
        · split
          · exact Same.refl _
          · show Same P (Nac.Procs.park P (runI P).toNat r.toNat t v)
            exact Same.park _ _ _ _ _
        · split
          · exact Same.release _ _ _
          · refine Same.trans ?_ (Same.more _ _)
            exact Same.setR _ _ rfl rfl
      · split
        · exact Same.more _ _
        · exact Same.refl _
theorem Same.lower (P : PSet) (r : Int) : Same P (lowerS P r).2 := by
  unfold lowerS
  split
  · split
    · exact Same.setR _ _ rfl rfl
    · exact Same.refl _
  · exact Same.refl _
theorem Same.tick1 (P : PSet) (p : Nat) : Same P (tick1 P p) := by
  unfold Nac.Procs.tick1
  split
  · split
    · exact Same.setP P p (y := { P.proc p with left := (P.proc p).left - 1 }) rfl
    · refine Same.trans ?_ (Same.release (P.setP p { P.proc p with left := (P.proc p).left - 1 }) p _)
      exact Same.setP P p (y := { P.proc p with left := (P.proc p).left - 1 }) rfl
  · exact Same.refl _
theorem Same.tickTo (P : PSet) : ∀ k, Same P (tickTo P k)
  | 0 => Same.refl P
  | k + 1 => by rw [tickTo_succ]; exact (Same.tickTo P k).trans (Same.tick1 _ _)
theorem Same.tick (P : PSet) : Same P (tickS P) := Same.tickTo P _
/-! ### who runs -/
theorem great_ge (P : PSet) : ∀ (l : List Nat) (g : Int), g ≤ great P l g ∧ ∀ p ∈ l, (P.proc p).pr ≤ great P l g
  | [], g => ⟨Int.le_refl _, fun p hp => by cases hp⟩
  | a :: l, g => by
    obtain ⟨h1, h2⟩ := great_ge P l (max g (P.proc a).pr)
    refine ⟨Int.le_trans (Int.le_max_left _ _) h1, fun p hp => ?_⟩
    rcases List.mem_cons.1 hp with rfl | hp
    · exact Int.le_trans (Int.le_max_right _ _) h1
    · exact h2 p hp
theorem great_at (P : PSet) : ∀ (l : List Nat) (g : Int), great P l g = g ∨ ∃ p ∈ l, (P.proc p).pr = great P l g
  | [], g => .inl rfl
  | a :: l, g => by
    rcases great_at P l (max g (P.proc a).pr) with h | ⟨p, hp, h⟩
    · by_cases hm : g ≤ (P.proc a).pr
      · exact .inr ⟨a, by simp, by show _ = great P l _; rw [h, Int.max_eq_right hm]⟩
      · left
        show great P l _ = g
        rw [h, Int.max_eq_left (by omega)]
    · exact .inr ⟨p, by simp [hp], h⟩
/-- who runs is ready, and nobody who is ready has a greater priority; nobody runs just when nobody is ready -/
theorem run_best {P : PSet} (h : Inv P) : (runI P = -1 ∧ P.ready = []) ∨ ∃ p : Nat, runI P = p ∧ p ∈ P.ready ∧ p < P.ps.length ∧ ∀ q ∈ P.ready, (P.proc q).pr ≤ (P.proc p).pr := by
  have hg := great_ge P P.ready (-1)
  unfold runI
  cases hr : running P with
  | none =>
    left
    refine ⟨rfl, ?_⟩
    unfold running at hr
    rw [List.find?_eq_none] at hr
    rcases great_at P P.ready (-1) with h1 | ⟨p, hp, h1⟩
    · cases hl : P.ready with
      | nil => rfl
      | cons a l =>
        have ha : a ∈ P.ready := by rw [hl]; simp
        have h2 := hg.2 a ha
        have h3 := h.pr a ((h.rdy a).1 ha).1
        omega
    · exact absurd (by simpa using h1) (hr p hp)
  | some p =>
    right
    unfold running at hr
    have hp := List.mem_of_find?_eq_some hr
    have he := List.find?_some hr
    have he : (P.proc p).pr = great P P.ready (-1) := by simpa using he
    exact ⟨p, rfl, hp, h.rin p hp, fun q hq => by rw [he]; exact hg.2 q hq⟩
end Nac.Procs
/- A region that draws its order, in full: of each slot what its value is or reads as, kept along a relation of worlds that every operation holds; of the world what holds while just some operations have been run; the last operations, from p on, as a list. Over whatever program. -/
namespace Nac
open Go Go.RowKit
/-- what is known of a slot's value, kept along R -/
inductive RD (R : World → World → Prop) where
  | is (v : Value)
  | pr (p : Value → World → Prop) (hm : ∀ v w w', p v w → R w w' → p v w')
def RD.ok {R : World → World → Prop} : RD R → Value → World → Prop
  | .is u, v, _ => v = u
  | .pr p _, v, w => p v w
theorem RD.keep {R : World → World → Prop} (d : RD R) (v : Value) (w w' : World) (h : d.ok v w) (hb : R w w') : d.ok v w' := by
  cases d with
  | is u => exact h
  | pr p hm => exact hm v w w' h hb
section
variable {P : Program} {ops : Array Oper} {Q : Exit → Act → World → Prop} {R : World → World → Prop} {D : Nat → RD R} {J : (Nat → Bool) → World → Prop} {a0 : Act}
structure RCtx (ops : Array Oper) (R : World → World → Prop) (D : Nat → RD R) (J : (Nat → Bool) → World → Prop) (a0 : Act) (i : Nat) (L : Nat → Bool) (a : Act) (w : World) : Prop where
  world : J L w
  tsize : a.tmps.size = a0.tmps.size
  fresh : L i = false
  ahead : ∀ k, k ∈ preds ops 3 i → L k = true
  pred : ∀ k d, k ∈ preds ops 3 i → dstOf ops k = some d → (D k).ok (a.tmps.getD d undef) w
  orig : ∀ t, origB ops i t = true → a.tmps.getD t undef = a0.tmps.getD t undef
def RStep (P : Program) (ops : Array Oper) (Q : Exit → Act → World → Prop) (R : World → World → Prop) (D : Nat → RD R) (J : (Nat → Bool) → World → Prop) (a0 : Act) (i : Nat) : Prop :=
  ∀ o, ops[i]? = some o → ∀ L a w, RCtx ops R D J a0 i L a w →
    if Region.wanted o (yielded ops a.tmps) = true then o.wp P a w (fun a' w' => ∃ v, a' = a.put o.dst v ∧ (D i).ok v w' ∧ R w w' ∧ J (upd L i) w') Q else (D i).ok undef w ∧ J (upd L i) w
theorem rel_any {p : Nat} (hrefl : ∀ w, R w w) (hch : chainB ops p = true) (hd : distinctB ops a0.tmps.size = true) (hbk : backB ops = true)
    (step : ∀ i, i < p → RStep P ops Q R D J a0 i)
    (fin : ∀ L a w, (∀ i, i < p → L i = true) → J L w → a.defers = a0.defers → a.tmps.size = a0.tmps.size → (∀ i d, i < p → dstOf ops i = some d → (D i).ok (a.tmps.getD d undef) w) → (∀ t, (∀ i, i < p → dstOf ops i ≠ some t) → a.tmps.getD t undef = a0.tmps.getD t undef) → wpList P ops Q (ops.toList.drop p) a w) :
    ∀ (fuel : Nat) (listed : Array Bool) (a : Act) (w : World), falses listed ≤ fuel → (∀ j, p ≤ j → listed.getD j false = false) → VInv ops (fun _ _ => True) (fun _ _ => True) a0 listed a w → J (fun i => listed.getD i false) w → (∀ i d, listed.getD i false = true → dstOf ops i = some d → (D i).ok (a.tmps.getD d undef) w) → wpAny P .any ops Q fuel listed a w := by
  have hps : p ≤ ops.size := by
    unfold chainB at hch
    rw [Bool.and_eq_true] at hch
    simpa using hch.1
  have hdist : ∀ x y d, x < ops.size → y < ops.size → dstOf ops x = some d → (d < a0.tmps.size) ∧ (dstOf ops y = some d → x = y) := by
    intro x y d hx hy hxd
    unfold distinctB at hd
    rw [List.all_eq_true] at hd
    have h1 := hd x (by simpa using hx)
    rw [Bool.and_eq_true, List.all_eq_true] at h1
    obtain ⟨h1, h2⟩ := h1
    have h2 := h2 y (by simpa using hy)
    rw [hxd] at h1 h2
    refine ⟨by simpa using h1, fun hyd => ?_⟩
    rw [hyd] at h2
    simpa using h2
  have hin : ∀ k d, dstOf ops k = some d → k < ops.size := by
    intro k d hk
    rcases Nat.lt_or_ge k ops.size with h | h
    · exact h
    · simp [dstOf, Array.getElem?_eq_none h] at hk
  have hall : ∀ (fuel : Nat) (listed : Array Bool) (a : Act) (w : World), falses listed ≤ fuel → (∀ j, p ≤ j → listed.getD j false = false) → VInv ops (fun _ _ => True) (fun _ _ => True) a0 listed a w → J (fun i => listed.getD i false) w → (∀ i d, listed.getD i false = true → dstOf ops i = some d → (D i).ok (a.tmps.getD d undef) w) → (∀ j, j < p → listed.getD j false = true) → wpAny P .any ops Q fuel listed a w := by
    intro fuel listed a w hf hz hI hJ hD hl
    refine tail_any hch hbk fuel listed a w p (Nat.le_refl _) hps hI.size hf hl hz hI.closed ?_
    refine fin _ a w (fun i hi => hl i hi) hJ hI.defers hI.tsize (fun i d hi h => hD i d (hl i hi) h) (fun t ht => hI.rest t fun i hli => ht i ?_)
    rcases Nat.lt_or_ge i p with h | h
    · exact h
    · rw [hz i h] at hli; cases hli
  intro fuel
  induction fuel with
  | zero =>
    intro listed a w hf hz hI hJ hD
    exact hall 0 listed a w hf hz hI hJ hD fun i hi => falses_zero listed (by omega) i (by rw [hI.size]; omega)
  | succ fuel ih =>
    intro listed a w hf hz hI hJ hD
    by_cases hdone : ∀ j, j < p → listed.getD j false = true
    · exact hall _ listed a w hf hz hI hJ hD hdone
    have hnd : ∃ j, j < p ∧ listed.getD j false = false := by
      apply Classical.byContradiction
      intro h
      refine hdone fun j hj => ?_
      cases hb : listed.getD j false
      · exact absurd ⟨j, hj, hb⟩ h
      · rfl
    obtain ⟨j0, hj0, hl0⟩ := hnd
    refine ⟨fun hr => absurd hr (ready_ex hbk hI.size j0 (by omega) hl0), fun i hi => ?_⟩
    obtain ⟨h1, h2, o, ho, hready⟩ := ready_of hi hI.size
    have hip : i < p := by
      rcases Nat.lt_or_ge i p with h | h
      · exact h
      · have := chain_listed hch hI.closed h1 h (fun o' ho' => by rw [ho] at ho'; obtain rfl := Option.some.inj ho'; exact hready) j0 (by omega)
        rw [hl0] at this
        cases this
    have hctx : RCtx ops R D J a0 i (fun k => listed.getD k false) a w := by
      have hpc := preds_closed hI.closed 3 i (fun o' ho' => by rw [ho] at ho'; obtain rfl := Option.some.inj ho'; exact hready)
      refine ⟨hJ, hI.tsize, h2, hpc, fun k d hk hkd => hD k d (hpc k hk) hkd, fun t ht => hI.rest t fun k hl hkd => ?_⟩
      unfold origB at ht
      rw [List.all_eq_true] at ht
      have h3 := ht k (by simpa using hin k t hkd)
      rw [hkd] at h3
      simp only [bne_self_eq_false, Bool.false_or, List.contains_iff_mem] at h3
      have := preds_closed hI.closed 3 k (fun o' ho' e he hb' => hI.closed k o' ho' hl e he hb') i h3
      rw [h2] at this
      cases this
    have hs := step i hip o ho _ a w hctx
    have hfl : falses (listed.setIfInBounds i true) ≤ fuel := by
      have := falses_set listed i (by rw [hI.size]; exact h1) h2
      omega
    have hls : i < listed.size := by rw [hI.size]; exact h1
    have hz' : ∀ j, p ≤ j → (listed.setIfInBounds i true).getD j false = false := fun j hj => by
      rw [getD_setIf _ _ _ hls, if_neg (by omega)]
      exact hz j hj
    have hup : (fun k => (listed.setIfInBounds i true).getD k false) = upd (fun k => listed.getD k false) i := upd_listed _ _ hls
    have hdo : dstOf ops i = o.dst := by simp [dstOf, ho]
    have hnext : ∀ v w', (D i).ok v w' → R w w' → ∀ j d, (listed.setIfInBounds i true).getD j false = true → dstOf ops j = some d → (D j).ok ((a.put o.dst v).tmps.getD d undef) w' := by
      intro v w' hv hR j d hl hjd
      rw [getD_setIf _ _ _ hls] at hl
      have hput : (a.put o.dst v).tmps.getD d undef = if o.dst = some d then v else a.tmps.getD d undef := by
        cases hod : o.dst with
        | none => simp [Act.put]
        | some d' =>
          have hlt := (hdist i i d' h1 h1 (by rw [hdo, hod])).1
          simp only [Act.put]
          rw [getD_put _ _ _ _ (by rw [hI.tsize]; exact hlt)]
          simp
      rw [hput]
      by_cases hij : i = j
      · subst hij
        rw [hdo] at hjd
        rw [if_pos hjd]
        exact hv
      · rw [if_neg hij] at hl
        rw [if_neg (fun h => hij ((hdist i j d h1 (hin j d hjd) (by rw [hdo]; exact h)).2 hjd))]
        exact RD.keep _ _ _ _ (hD j d hl hjd) hR
    unfold wpOp
    rw [ho]
    simp only
    split
    · rename_i hw
      rw [if_pos hw] at hs
      refine Or.inl (Oper.wp_mono ?_ hs)
      rintro a' w' ⟨v, rfl, hv, hR, hb⟩
      exact ih _ _ _ hfl hz' (val_put (v := v) hI h1 ho hd hready trivial trivial) (by rw [hup]; exact hb) (hnext v w' hv hR)
    · rename_i hw
      rw [if_neg hw] at hs
      exact ih _ _ _ hfl hz' (val_put (v := undef) hI h1 ho hd hready trivial trivial) (by rw [hup]; exact hs.2) (hnext undef w hs.1 (hrefl w))
/-- THE LAW -/
theorem region_rel {id : Nat} {a0 : Act} {w0 : World} (p : Nat) (R : World → World → Prop) (D : Nat → RD R) (ds : List (Option Tmp)) (J : (Nat → Bool) → World → Prop) (hrefl : ∀ w, R w w) (hm : P.follows .mixedOrders = true) (hd : distinctB ops a0.tmps.size = true) (hbk : backB ops = true)
    (hch : chainB ops p = true) (hds : (ops.toList.take p).map (·.dst) = ds)
    (h0 : J (fun _ => false) w0.drew)
    (step : ∀ i, i < p → RStep P ops Q R D J a0 i)
    (fin : ∀ L V w, (∀ i, i < p → L i = true) → V.length = ds.length → J L w → (∀ i d, ds[i]? = some (some d) → (D i).ok (V.getD i undef) w) → wpList P ops Q (ops.toList.drop p) (putsL (ds.zip V) a0) w) :
    (Code.region id ops true).wp P Q a0 w0 := by
  refine wp_region_any hm ?_
  have hps : p ≤ ops.size := by
    unfold chainB at hch
    rw [Bool.and_eq_true] at hch
    simpa using hch.1
  have hg : ∀ i, (Array.replicate ops.size false).getD i false = false := by
    intro i
    rw [Array.getD_eq_getD_getElem?, Array.getElem?_replicate]
    split <;> rfl
  refine rel_any (D := D) (J := J) (a0 := a0) hrefl hch hd hbk step (fun L a w hall hJ hde hts hs hr => ?_) _ _ _ _ ?_ (fun j _ => hg j) ⟨by simp, trivial, rfl, rfl, fun i o _ h => (by rw [hg] at h; cases h), fun i d h => (by rw [hg] at h; cases h), fun _ _ => rfl⟩ ?_ (fun i d h => by rw [hg] at h; cases h)
  · have hlt : ∀ i x, ds[i]? = some x → i < p := by
      intro i x h
      have := (List.getElem?_eq_some_iff.1 h).1
      rw [← hds] at this
      simp at this
      omega
    have hdi : ∀ i d, ds[i]? = some (some d) → dstOf ops i = some d := by
      intro i d h
      have hi := hlt i _ h
      rw [← hds, List.getElem?_map, List.getElem?_take_of_lt hi, Array.getElem?_toList] at h
      unfold dstOf
      cases ho : ops[i]? with
      | none => rw [ho] at h; cases h
      | some o => rw [ho] at h; simpa using h
    have hdi' : ∀ i d, i < p → dstOf ops i = some d → ds[i]? = some (some d) := by
      intro i d hi h
      rw [← hds, List.getElem?_map, List.getElem?_take_of_lt hi, Array.getElem?_toList]
      unfold dstOf at h
      cases ho : ops[i]? with
      | none => rw [ho] at h; cases h
      | some o => rw [ho] at h; simpa using h
    have e := putsL_eq (a0 := a0) (a := a) (l := ds.zip (slotsOf a.tmps ds)) hde hts ?_ ?_
    · have hf := fin L (slotsOf a.tmps ds) w hall (by simp [slotsOf]) hJ fun i d h => by
        have := hs i d (hlt i _ h) (hdi i d h)
        have e2 : (slotsOf a.tmps ds).getD i undef = a.tmps.getD d undef := by
          unfold slotsOf
          rw [List.getD_eq_getElem?_getD, List.getElem?_map, h]
          rfl
        rw [e2]
        exact this
      rw [← e] at hf
      exact hf
    · intro x hx t ht
      obtain ⟨i, hi⟩ := List.mem_iff_getElem?.1 hx
      obtain ⟨h1, h2⟩ := List.getElem?_zip_eq_some.1 hi
      unfold slotsOf at h2
      rw [List.getElem?_map, h1] at h2
      obtain ⟨d, v⟩ := x
      simp only at ht h1 h2
      subst ht
      simpa using h2
    · intro t ht
      refine hr t fun i hip hdt => ?_
      have h1 := hdi' i t hip hdt
      have h3 : (slotsOf a.tmps ds)[i]? = some (a.tmps.getD t undef) := by
        unfold slotsOf
        rw [List.getElem?_map, h1]
        rfl
      exact ht (some t, a.tmps.getD t undef) (List.mem_iff_getElem?.2 ⟨i, List.getElem?_zip_eq_some.2 ⟨h1, h3⟩⟩) rfl
  · unfold falses
    simp
  · rw [show (fun i => (Array.replicate ops.size false).getD i false) = fun _ => false from funext hg]
    exact h0
theorem RCtx.slot {i : Nat} {L : Nat → Bool} {a : Act} {w : World} (c : RCtx ops R D J a0 i L a w) (k x : Nat) (hk : (preds ops 3 i).contains k = true) (hx : dstOf ops k = some x) : (D k).ok (a.tmps.getD x undef) w :=
  c.pred k x (by simpa using hk) hx
/-! ### one operation -/
variable {i : Nat} {o : Oper}
theorem rwant_none (hg : o.guard = none) : ∀ L a w, RCtx ops R D J a0 i L a w → Region.wanted o (yielded ops a.tmps) = true := fun _ _ _ _ => by simp [Region.wanted, hg]
theorem rwant (j : Nat) (want : Bool) (d : Tmp) (hg : o.guard = some (j, want)) (hj : (preds ops 3 i).contains j = true) (hdj : dstOf ops j = some d) (hD : D j = .is (.bool want)) (hlt : decide (d < a0.tmps.size) = true) :
    ∀ L a w, RCtx ops R D J a0 i L a w → Region.wanted o (yielded ops a.tmps) = true := fun L a w c => by
  have hsz := c.tsize
  have h := c.pred j d (by simpa using hj) hdj
  rw [hD] at h
  have h : a.tmps.getD d undef = .bool want := h
  have hlt : d < a.tmps.size := by rw [hsz]; simpa using hlt
  have hy : yielded ops a.tmps j = some want := by
    unfold yielded
    have hdj' : (ops[j]?).bind (·.dst) = some d := hdj
    rw [hdj']
    rw [Array.getD_eq_getD_getElem?, Array.getElem?_eq_getElem hlt] at h
    simp only [Option.getD_some] at h
    simp [Array.getElem?_eq_getElem hlt, h]
  simp [Region.wanted, hg, hy]
/-- the guard says no -/
theorem rstep_unwanted (ho : ops[i]? = some o) (j : Nat) (want : Bool) (d : Tmp) (hg : o.guard = some (j, want)) (hj : (preds ops 3 i).contains j = true) (hdj : dstOf ops j = some d) (hD : D j = .is (.bool (!want)) ∨ D j = .is undef) (hlt : decide (d < a0.tmps.size) = true)
    (hu : D i = .is undef) (hJ : ∀ L w, J L w → J (upd L i) w) : RStep P ops Q R D J a0 i := by
  intro o' ho' L a w c
  rw [ho] at ho'
  obtain rfl := Option.some.inj ho'
  have hsz := c.tsize
  have h := c.pred j d (by simpa using hj) hdj
  have hlt : d < a.tmps.size := by rw [hsz]; simpa using hlt
  have h : a.tmps.getD d undef = .bool (!want) ∨ a.tmps.getD d undef = undef := by
    rcases hD with hD | hD
    · rw [hD] at h; exact .inl h
    · rw [hD] at h; exact .inr h
  have hy : Region.wanted o (yielded ops a.tmps) = false := by
    have hy : yielded ops a.tmps j = some (!want) ∨ yielded ops a.tmps j = none := by
      unfold yielded
      have hdj' : (ops[j]?).bind (·.dst) = some d := hdj
      rw [hdj']
      rw [Array.getD_eq_getD_getElem?, Array.getElem?_eq_getElem hlt] at h
      simp only [Option.getD_some] at h
      rcases h with h | h
      · left; simp [Array.getElem?_eq_getElem hlt, h]
      · right; simp [Array.getElem?_eq_getElem hlt, h, undef]
    rcases hy with hy | hy
    · cases want <;> simp [Region.wanted, hg, hy]
    · simp [Region.wanted, hg, hy]
  rw [if_neg (by rw [hy]; simp)]
  exact ⟨by rw [hu]; rfl, hJ _ _ c.world⟩
/-- one that leaves the world as it is -/
theorem rstep_pure (hrefl : ∀ w, R w w) (ho : ops[i]? = some o) (hw : ∀ L a w, RCtx ops R D J a0 i L a w → Region.wanted o (yielded ops a.tmps) = true) (hJ : ∀ L w, J L w → J (upd L i) w)
    (h : ∀ L a w, RCtx ops R D J a0 i L a w → ∃ v, (execOp a.eval o).run P w = .ok (.value v) w ∧ (D i).ok v w) : RStep P ops Q R D J a0 i := by
  intro o' ho' L a w c
  rw [ho] at ho'
  obtain rfl := Option.some.inj ho'
  rw [if_pos (hw L a w c)]
  obtain ⟨v, hr, hv⟩ := h L a w c
  unfold Oper.wp
  rw [hr]
  exact ⟨v, rfl, hv, hrefl w, hJ _ _ c.world⟩
theorem rstep_copy (hrefl : ∀ w, R w w) (ho : ops[i]? = some o) (hw : ∀ L a w, RCtx ops R D J a0 i L a w → Region.wanted o (yielded ops a.tmps) = true) (hJ : ∀ L w, J L w → J (upd L i) w) (t : Tmp) (hop : o.op = .move (.tmp t) ∨ o.op = .assign (.tmp t))
    (k : Nat) (hk : (preds ops 3 i).contains k = true) (hkd : dstOf ops k = some t) (hD : D i = D k) : RStep P ops Q R D J a0 i :=
  rstep_pure hrefl ho hw hJ fun L a w c => ⟨a.tmps.getD t undef, by rcases hop with h | h <;> simp [execOp, h, Act.eval], by rw [hD]; exact c.pred k t (by simpa using hk) hkd⟩
theorem rstep_first (hrefl : ∀ w, R w w) (ho : ops[i]? = some o) (hw : ∀ L a w, RCtx ops R D J a0 i L a w → Region.wanted o (yielded ops a.tmps) = true) (hJ : ∀ L w, J L w → J (upd L i) w) (t : Tmp) (hop : o.op = .move (.tmp t) ∨ o.op = .assign (.tmp t))
    (ht : origB ops i t = true) (hD : ∀ w, (D i).ok (a0.tmps.getD t undef) w) : RStep P ops Q R D J a0 i :=
  rstep_pure hrefl ho hw hJ fun L a w c => ⟨a.tmps.getD t undef, by rcases hop with h | h <;> simp [execOp, h, Act.eval], by rw [c.orig t ht]; exact hD w⟩
theorem rstep_const (hrefl : ∀ w, R w w) (ho : ops[i]? = some o) (hw : ∀ L a w, RCtx ops R D J a0 i L a w → Region.wanted o (yielded ops a.tmps) = true) (hJ : ∀ L w, J L w → J (upd L i) w) (v : Value) (hop : o.op = .move (.const v) ∨ o.op = .assign (.const v)) (hD : D i = .is v) : RStep P ops Q R D J a0 i :=
  rstep_pure hrefl ho hw hJ fun L a w _ => ⟨v, by rcases hop with h | h <;> simp [execOp, h, Act.eval], by rw [hD]; rfl⟩
theorem rstep_call (ho : ops[i]? = some o) (hw : ∀ L a w, RCtx ops R D J a0 i L a w → Region.wanted o (yielded ops a.tmps) = true) (f : FuncId) (args : Array Operand) (ts : Array TypeId)
    (hop : o.op = .call { callee := .value (.func f), args := args, argTypes := ts }) (he : ∀ vs w, (callFunc f vs).run P w = .ok (.enter f vs) w)
    (h : ∀ L a w, RCtx ops R D J a0 i L a w → Calls P f (args.map a.eval) w fun e w' => ∃ v, e = .returned v ∧ (D i).ok v w' ∧ R w w' ∧ J (upd L i) w') : RStep P ops Q R D J a0 i := by
  intro o' ho' L a w c
  rw [ho] at ho'
  obtain rfl := Option.some.inj ho'
  rw [if_pos (hw L a w c)]
  have hr : (execOp a.eval o).run P w = .ok (.enter f (args.map a.eval)) w := by
    simp [execOp, hop, resolve, Deferred.ofValue, Act.eval, invoke, he]
  unfold Oper.wp
  rw [hr]
  refine (h L a w c).mono ?_
  rintro e w' ⟨v, rfl, hv, hb⟩
  exact ⟨v, rfl, hv, hb⟩
/-- a new variable -/
theorem rstep_alloc (ho : ops[i]? = some o) (hw : ∀ L a w, RCtx ops R D J a0 i L a w → Region.wanted o (yielded ops a.tmps) = true) (t : TypeId) (hop : o.op = .alloc t) (z : Value)
    (hz : (P.info? t).bind (·.zero) = some z)
    (h : ∀ L w, J L w → L i = false → (D i).ok (.pointer (some ⟨w.heap.size, 0, none⟩)) (w.alloc (.cells z.cells t)) ∧ R w (w.alloc (.cells z.cells t)) ∧ J (upd L i) (w.alloc (.cells z.cells t))) : RStep P ops Q R D J a0 i := by
  intro o' ho' L a w c
  rw [ho] at ho'
  obtain rfl := Option.some.inj ho'
  rw [if_pos (hw L a w c)]
  have hzv : (zeroValue t).run P w = .ok z w := by
    cases hi : P.info? t with
    | none => simp [hi] at hz
    | some i =>
      simp [hi] at hz
      simp [zeroValue, typeInfo, hi, hz]
  have hr : (Instr.alloc t true (.tuple #[])).run P w = .ok (.pointer (some ⟨w.heap.size, 0, none⟩)) (w.alloc (.cells z.cells t)) := by
    simp [Instr.alloc, hzv, newVar, newRow]
  unfold Oper.wp execOp
  simp only [hop, Sem.run_bind, hr, Result.andThen_ok]
  exact ⟨_, rfl, h L w c.world c.fresh⟩
end
end Nac
