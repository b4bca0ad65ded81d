/- Decode: instructions out of bytes. -/
import Derived.Test.YtlecpekgnlaneaaDoorTopList
import Derived.Test.YtlecpekgnlaneaaDoorTopFault
import Derived.Test.YtlecpekgnlaneaaDoorTopRef2
import Derived.Test.YtlecpekgnlaneaaDoorSliceB
import Derived.Test.YtlecpekgnlaneaaDoorPvmCheck
namespace Nac
open Go Go.RowKit
theorem made4 (z : Value) (n : Nat) : (madeCells #[z, z, z, z] (n * 4)).toList = ((List.replicate n [z, z, z, z]).flatten : List Value) := by
  have h : ∀ j, j < n * 4 → (madeCells #[z, z, z, z] (n * 4)).toList[j]? = some z := fun j hj => by
    have h4 : j % 4 < 4 := Nat.mod_lt _ (by decide)
    simp [madeCells, hj]
    rcases (by omega : j % 4 = 0 ∨ j % 4 = 1 ∨ j % 4 = 2 ∨ j % 4 = 3) with h | h | h | h <;> rw [h] <;> rfl
  have e : (List.replicate n [z, z, z, z]).flatten = List.replicate (n * 4) z := by
    induction n with
    | zero => rfl
    | succ n ih =>
      have ih' := ih (fun j hj => by
        have h4 : j % 4 < 4 := Nat.mod_lt _ (by decide)
        simp [madeCells, hj]
        rcases (by omega : j % 4 = 0 ∨ j % 4 = 1 ∨ j % 4 = 2 ∨ j % 4 = 3) with h | h | h | h <;> rw [h] <;> rfl)
      rw [List.replicate_succ, List.flatten_cons, ih', Nat.succ_mul, Nat.add_comm, ← List.replicate_append_replicate]
      rfl
  rw [e]
  apply List.ext_getElem?
  intro j
  by_cases hj : j < n * 4
  · rw [h j hj, List.getElem?_replicate, if_pos hj]
  · rw [List.getElem?_eq_none (by simp [madeCells]; omega), List.getElem?_eq_none (by simp; omega)]
end Nac
namespace Go.Proofs.YtlecpekgnlaneaaDoor
open Go.RowKit Nac Nac.Pvm
def zI : Ins := ⟨0, 0, 0, 0⟩
theorem insC_zero (n : Nat) : (madeCells #[.int .u8 0, .int .u8 0, .int .u8 0, .int .u8 0] (n * 4)).toList = insC (List.replicate n zI) := by
  rw [made4]
  unfold insC
  rw [List.map_replicate]
  rfl
theorem insC_set (M : List Ins) (k : Nat) (hk : k < M.length) (i : Ins) : (insC M).take (k * 4) ++ icells i ++ (insC M).drop (k * 4 + 4) = insC (M.set k i) := by
  have := flatten_set 4 (M.map icells) (ins_len4 M) k (by simpa using hk) (icells i) rfl
  rw [Nat.mul_comm 4 k] at this
  unfold insC
  rw [this, List.map_set]
theorem rin_blk {w : World} {B : Nat} {l : List Ins} (h : Blk w B (insC l)) (hf : ∀ i ∈ l, i.fits) : RIn w w.heap.size (some ⟨B, 0, none⟩) l := fun hn => by
  refine ⟨B, 0, rfl, h.lt, fun j hj => ?_⟩
  have hc : ∀ f (hf : f < 4), w.cell? ⟨B, 0 + j * 4 + f, none⟩ = some ((icells l[j])[f]'(by simpa [icells] using hf)) := fun f hf => by
    obtain ⟨hj', he⟩ := flat_get (ins_len4 l) (p := j) (f := f) (by simpa using hj) hf
    refine h.cell ?_
    rw [Nat.zero_add]
    unfold insC
    rw [List.getElem?_eq_getElem hj', he]
    simp
  exact ⟨hc 0 (by decide), hc 1 (by decide), hc 2 (by decide), hc 3 (by decide), hf _ (List.getElem_mem hj)⟩
section
variable {w : World} {ops : Array Oper} {rest : List Oper} {o : Oper} {a : Act} {Q : Exit → Act → World → Prop}
theorem wpList_make_ins (hg : o.guard = none) (l c : Operand) (hop : o.op = Op.makeSlice 23 l c) (n : Nat) (hn : n ≤ 1000000) (hl : a.eval l = .int .i64 (n : Int)) (hc : a.eval c = .int .i64 (n : Int))
    (hK : ∀ w', Blk w' w.heap.size (insC (List.replicate n zI)) → w.grownBy w' none → wpList Tryd.prog ops Q rest (a.put o.dst (.slice (some ⟨w.heap.size, 0, none⟩) n n)) w') : wpList Tryd.prog ops Q (o :: rest) a w := by
  obtain ⟨ti, hi, hz, hs1, hb1⟩ := info_parts Tryd.infoIns
  refine wpList_plain hg fun K hK' => ?_
  have hr := run_make (P := Tryd.prog) w 23 41 ti _ Tryd.underlying23 hi hz .i64 .i64 (n : Int) (n : Int) (by omega) (by omega) (by rw [hb1]; omega) (by omega)
  unfold Oper.wp
  rw [hs1] at hr
  simp only [Int.toNat_natCast] at hr
  simp [execOp, hop, hl, hc, hr, Result.andThen]
  refine hK' _ _ (hK _ ?_ (World.grownBy_alloc w _ none))
  have := Blk.new w (madeCells #[.int .u8 0, .int .u8 0, .int .u8 0, .int .u8 0] (n * 4)).toList 41
  rw [Array.toArray_toList] at this
  rw [← insC_zero]
  exact this
theorem wpList_storeIns (hg : o.guard = none) (x y : Operand) (hop : o.op = .store 41 x y) (b k : Nat) (M : List Ins) (i : Ins) (hk : k < M.length) (hx : a.eval x = .pointer (some ⟨b, k * 4, none⟩)) (hy : a.eval y = .agg (icells i).toArray) (hb : Blk w b (insC M))
    (h : ∀ w', Blk w' b (insC (M.set k i)) → w.grownBy w' (some b) → wpList Tryd.prog ops Q rest (a.put o.dst undef) w') : wpList Tryd.prog ops Q (o :: rest) a w := by
  have hl : k * 4 + 4 ≤ (insC M).length := by rw [insC_len]; omega
  have h1 : ∀ v ∈ icells i, v.oneCell' = true := fun v hv => by
    simp only [icells, List.mem_cons, List.not_mem_nil, or_false] at hv
    rcases hv with rfl | rfl | rfl | rfl <;> rfl
  refine wpList_store_mid hg 41 x y hop b (k * 4) (icells i).toArray hx hy (hb.there _ _ hl) (by kernel_rfl) (all_oneCell_toArray h1) ?_
  refine h _ ?_ (by simpa using grown_setCells b (icells i) (k * 4) w)
  have := hb.setCells (icells i) (k * 4) hl
  rw [show (icells i).length = 4 from rfl, insC_set M k hk i] at this
  exact this
end
/-- what Decode comes to -/
def DecV (l : List UInt8) (v v2 : Value) (w : World) : Prop :=
  (l.length % 4 ≠ 0 ∧ v = .slice none 0 0 ∧ ∃ g, v2 = flt g ∧ Box w g [.int .i64 2, .int .i64 (l.length / 4 : Nat), .nilIface]) ∨
  (l.length % 4 = 0 ∧ check (insOf l) = none ∧ v2 = .nilIface ∧ ∃ A c, v = .slice A (insOf l).length c ∧ RIn w w.heap.size A (insOf l)) ∨
  (l.length % 4 = 0 ∧ ∃ c k : Nat, check (insOf l) = some (c, k) ∧ v = .slice none 0 0 ∧ ∃ g g2, v2 = flt g2 ∧ Box w g2 [.int .i64 c, .int .i64 ((4 * k : Nat) : Int), flt g] ∧ Box w g [.int .i64 c, .int .i64 k, .nilIface])
def RetDec (w : World) (l : List UInt8) (e : Ending) (w' : World) : Prop := (∃ v v2, e = .returned (.tuple #[v, v2]) ∧ DecV l v v2 w') ∧ Below w.heap.size w w'
def DcRel (w0 : World) (l : List UInt8) (n4 B : Nat) (s22 : Value) (w : World) : Prop :=
  ∃ (i : Nat) (M : List Ins), i ≤ n4 ∧ s22 = .int .i64 (i : Int) ∧ Blk w B (insC M) ∧ M.length = n4 ∧ M.take i = (insOf l).take i ∧ Below w0.heap.size w0 w
theorem take_set_succ {M L : List Ins} {i : Nat} (h : M.take i = L.take i) (hM : i < M.length) (hL : i < L.length) : (M.set i L[i]).take (i + 1) = L.take (i + 1) := by
  rw [List.take_succ_eq_append_getElem (by simpa using hM), List.getElem_set_self, List.take_set_of_le (Nat.le_refl _), h, List.take_succ_eq_append_getElem hL]
theorem faultAt_lt : ∀ (n : Nat) (l : List Ins) (i : Nat) (f : Nat × Nat), faultAt n l i = some f → f.2 < i + l.length ∧ 1 ≤ f.1
  | _, [], _, _, h => by cases h
  | n, x :: l, i, f, h => by
    unfold faultAt at h
    split at h
    · injection h with h; subst h; exact ⟨by simp, by omega⟩
    split at h
    · injection h with h; subst h; exact ⟨by simp, by omega⟩
    · have := faultAt_lt n l (i + 1) f h
      exact ⟨by simp; omega, this.2⟩
theorem check_lt {l : List Ins} {c k : Nat} (h : check l = some (c, k)) : k ≤ l.length ∧ 1 ≤ c := by
  unfold check at h
  split at h
  · injection h with h; injection h with h1 h2; omega
  · split at h
    · rename_i f hf
      injection h with h
      have := faultAt_lt _ _ _ _ hf
      rw [h] at this
      simp at this; omega
    · split at h
      · injection h with h; injection h with h1 h2; omega
      · cases h
set_option maxRecDepth 100000 in
set_option maxHeartbeats 2000000 in
theorem Decode_calls (w : World) (Ab : Option Addr) (c : Nat) (l : List UInt8) (h : RB w w.heap.size Ab l) (hlc : l.length ≤ c) (h8 : l.length ≤ 1000000) (hg : Hdl w) : Calls Tryd.prog 4 #[.slice Ab l.length c] w (RetDec w l) := by
  have HRB := Lib.hid h
  have HG := Lib.hid hg
  obtain ⟨n, hn⟩ : ∃ n, n = l.length := ⟨_, rfl⟩
  have HN := Lib.hid hn
  have HLC := Lib.hid hlc
  rw [← hn] at h8 ⊢
  clear h hn hg hlc
  obtain ⟨n4, hn4⟩ : ∃ n4, n4 = n / 4 := ⟨_, rfl⟩
  by_cases hm : n % 4 = 0
  · have HM4 : Hid (n = 4 * n4) := Lib.hid (by omega)
    have hn46 : n4 ≤ 1000000 := by omega
    have HN4 : Hid ((insOf l).length = n4) := Lib.hid (by rw [insOf_len, ← HN.out, hn4])
    have eq1 : ((n : Int) % 4 != 0) = false := by simp; omega
    have eq2 : (n : Int) / 4 = (n4 : Int) := by omega
    clear hn4 hm
    go_enter Tryd.func4, Tryd.ntmps4
    go_wp2_with ((with_reducible show wpList _ _ _ (Oper.mk _ (Op.makeSlice _ _ _) _ _ _ _ :: _) _ _); refine wpList_make_ins rfl _ _ rfl n4 hn46 (by rfl) (by rfl) ?_)
    obtain ⟨B4, hB4⟩ : ∃ B4, B4 = w.heap.size := ⟨_, rfl⟩
    rw [← hB4]
    intro w1 hb1 hg1
    have HE4 := Lib.hid hB4
    have HBEL1 : Hid (Below w.heap.size w w1) := Lib.hid (by first | exact gbelow hg1 | exact below_of_grown hg1)
    have HB1 := Lib.hid hb1
    clear hb1 hg1 hB4
    go_wp2_with fail
    go_loopw [22] (fun s22 wr => DcRel w l n4 B4 s22 wr) (fun s22 _ => n4 - (intOf s22).toNat)
    case atStart => exact ⟨0, List.replicate n4 zI, Nat.zero_le _, rfl, HB1.out, by simp, by simp, HBEL1.out⟩
    case round =>
      obtain ⟨i, M, hi, rfl, hblk, hml, hmt, hbel⟩ := hrel
      have HI := Lib.hid hi
      have HBLK := Lib.hid hblk
      have HML := Lib.hid hml
      have HMT := Lib.hid hmt
      have HBEL := Lib.hid hbel
      clear hi hblk hml hmt hbel HB1 HBEL1
      by_cases hlt : i < n4
      · have hlt2 : (i : Int) < n4 := by omega
        obtain ⟨kk, hkk⟩ : ∃ kk, kk = 4 * i := ⟨_, rfl⟩
        have HKK := Lib.hid hkk
        have hkn : Hid (kk + 4 ≤ n) := Lib.hid (by have := HM4.out; omega)
        have eqk : (4 : Int) * (i : Int) = (kk : Int) := by omega
        have HLT := Lib.hid hlt
        clear hkk hlt
        have RBW : Hid (RB wr w.heap.size Ab l) := Lib.hid (HRB.out.below HBEL.out)
        go_wp2_with ((with_reducible show wpList _ _ _ (Oper.mk _ (Op.slice _ _ _ _ _) _ _ _ _ :: _) _ _); (refine wpList_cut _ (Or.inl rfl) _ _ _ rfl w.heap.size Ab n c l HN.out rfl RBW.out HLC.out kk n (Or.inr rfl) (Or.inl ⟨rfl, rfl⟩) (by have := hkn.out; omega) (Nat.le_refl _) ?_))
        intro A6 m6 L6 hL6 hm6 hm6' hr6
        rw [← hm6']
        clear hm6'
        have hl6 : L6.length = m6 := by rw [hL6.out, hm6.out]; simp; have := HN.out; omega
        have HL6 := Lib.hid hl6
        have hm4 : 4 ≤ m6 := by rw [hm6.out]; have := hkn.out; omega
        obtain ⟨b, o, hA, hb, hc0⟩ := hr6.get (k := 0) (by omega)
        subst hA
        have hcell : ∀ j (hj : j < L6.length), wr.cell? ⟨b, o + j, none⟩ = some (.int .u8 ((L6[j]).toNat : Int)) := fun j hj => by
          obtain ⟨b', o', hA', _, hc'⟩ := hr6.get hj
          injection hA' with hA'
          injection hA' with e1 e2
          rw [e1, e2]; exact hc'
        obtain ⟨x0, hx0⟩ : ∃ x0, x0 = (L6[0]'(by omega)).toNat := ⟨_, rfl⟩
        obtain ⟨x1, hx1⟩ : ∃ x1, x1 = (L6[1]'(by omega)).toNat := ⟨_, rfl⟩
        obtain ⟨x2, hx2⟩ : ∃ x2, x2 = (L6[2]'(by omega)).toNat := ⟨_, rfl⟩
        obtain ⟨x3, hx3⟩ : ∃ x3, x3 = (L6[3]'(by omega)).toNat := ⟨_, rfl⟩
        have h6g : ∀ j, j < 4 → l.getD (kk + j) 0 = L6.getD j 0 := fun j hj => by
          rw [hL6.out]
          have h1 : kk + j < l.length := by have := hkn.out; have := HN.out; omega
          simp [List.getD, List.getElem?_drop, List.getElem?_take, h1]
          rw [if_pos (by have := hkn.out; omega)]; rfl
        have HX : Hid (insAt l i = ⟨x0, x1, x2, x3⟩) := Lib.hid (by
          unfold insAt
          have h60 := h6g 0 (by omega)
          rw [Nat.add_zero] at h60
          rw [← HKK.out, h60, h6g 1 (by omega), h6g 2 (by omega), h6g 3 (by omega), hx0, hx1, hx2, hx3]
          simp [List.getD, (show 0 < L6.length by omega), (show 1 < L6.length by omega), (show 2 < L6.length by omega), (show 3 < L6.length by omega)])
        have MC : Hid (∀ (w' : World), w' = wr.drew → w'.cell? ⟨b, o, none⟩ = some (.int .u8 (x0 : Int)) ∧ w'.cell? ⟨b, o + 1, none⟩ = some (.int .u8 (x1 : Int)) ∧ w'.cell? ⟨b, o + 2, none⟩ = some (.int .u8 (x2 : Int)) ∧ w'.cell? ⟨b, o + 3, none⟩ = some (.int .u8 (x3 : Int))) := Lib.hid fun w' hj => by
          subst hj
          rw [hx0, hx1, hx2, hx3]
          exact ⟨hcell 0 _, hcell 1 _, hcell 2 _, hcell 3 _⟩
        have H4 := Lib.hid hm4
        obtain ⟨c6, hc6⟩ : ∃ c6, c6 = c - kk := ⟨_, rfl⟩
        rw [← hc6]
        clear hc6 hcell hx0 hx1 hx2 hx3 h6g hl6 hm6 hL6 hr6 hb hc0 hm4 HL6
        go_wp2_with fail
        refine region_tail 16 [.slice (some ⟨B4, 0, none⟩) n4 n4, .int .i64 (i : Int), .slice (some ⟨b, o, none⟩) m6 c6, .pointer (some ⟨b, o, none⟩), .int .u8 (x0 : Int), .slice (some ⟨b, o, none⟩) m6 c6, .pointer (some ⟨b, o + 1, none⟩), .int .u8 (x1 : Int), .slice (some ⟨b, o, none⟩) m6 c6, .pointer (some ⟨b, o + 2, none⟩), .int .u8 (x2 : Int), .slice (some ⟨b, o, none⟩) m6 c6, .pointer (some ⟨b, o + 3, none⟩), .int .u8 (x3 : Int), .agg #[.int .u8 (x0 : Int), .int .u8 (x1 : Int), .int .u8 (x2 : Int), .int .u8 (x3 : Int)], .pointer (some ⟨B4, i * 4, none⟩)] [some 29, some 30, some 31, some 32, some 33, some 34, some 35, some 36, some 37, some 38, some 39, some 40, some 41, some 42, some 43, some 44] (fun _ w' => w' = wr.drew) (by kernel_rfl) (by kernel_rfl) (by kernel_rfl) (by kernel_rfl) rfl rfl rfl (fun ii hii => ?_) ?_
        · match ii, hii with
          | 0, _ => exact vstep_first rfl (vwant_none rfl) (fun _ _ h => h) 4 (Or.inl rfl) (by kernel_rfl) rfl
          | 1, _ => exact vstep_first rfl (vwant_none rfl) (fun _ _ h => h) 5 (Or.inl rfl) (by kernel_rfl) rfl
          | 2, _ => exact vstep_first rfl (vwant_none rfl) (fun _ _ h => h) 6 (Or.inl rfl) (by kernel_rfl) rfl
          | 3, _ => exact vstep_pure rfl (vwant_none rfl) (fun _ _ h => h) (fun LL aa ww cc => ⟨.pointer (some ⟨b, o, none⟩), by have e0 : aa.tmps.getD 31 undef = .slice (some ⟨b, o, none⟩) m6 c6 := cc.slot 2 31 (by kernel_rfl) rfl; have q1 : ¬ m6 = 0 := (by have := H4.out; omega); simp only [execOp, Act.eval, e0]; go_simp, rfl⟩)
          | 4, _ => exact vstep_pure rfl (vwant_none rfl) (fun _ _ h => h) (fun LL aa ww cc => ⟨.int .u8 (x0 : Int), by have e0 : aa.tmps.getD 32 undef = .pointer (some ⟨b, o, none⟩) := cc.slot 3 32 (by kernel_rfl) rfl; obtain ⟨m0, m1, m2, m3⟩ := MC.out _ cc.world; simp only [execOp, Act.eval, e0]; go_simp, rfl⟩)
          | 5, _ => exact vstep_first rfl (vwant_none rfl) (fun _ _ h => h) 6 (Or.inl rfl) (by kernel_rfl) rfl
          | 6, _ => exact vstep_pure rfl (vwant_none rfl) (fun _ _ h => h) (fun LL aa ww cc => ⟨.pointer (some ⟨b, o + 1, none⟩), by have e0 : aa.tmps.getD 34 undef = .slice (some ⟨b, o, none⟩) m6 c6 := cc.slot 5 34 (by kernel_rfl) rfl; have q1 : (1 : Int) < m6 := (by have := H4.out; omega); simp only [execOp, Act.eval, e0]; go_simp, rfl⟩)
          | 7, _ => exact vstep_pure rfl (vwant_none rfl) (fun _ _ h => h) (fun LL aa ww cc => ⟨.int .u8 (x1 : Int), by have e0 : aa.tmps.getD 35 undef = .pointer (some ⟨b, o + 1, none⟩) := cc.slot 6 35 (by kernel_rfl) rfl; obtain ⟨m0, m1, m2, m3⟩ := MC.out _ cc.world; simp only [execOp, Act.eval, e0]; go_simp, rfl⟩)
          | 8, _ => exact vstep_first rfl (vwant_none rfl) (fun _ _ h => h) 6 (Or.inl rfl) (by kernel_rfl) rfl
          | 9, _ => exact vstep_pure rfl (vwant_none rfl) (fun _ _ h => h) (fun LL aa ww cc => ⟨.pointer (some ⟨b, o + 2, none⟩), by have e0 : aa.tmps.getD 37 undef = .slice (some ⟨b, o, none⟩) m6 c6 := cc.slot 8 37 (by kernel_rfl) rfl; have q1 : (2 : Int) < m6 := (by have := H4.out; omega); simp only [execOp, Act.eval, e0]; go_simp, rfl⟩)
          | 10, _ => exact vstep_pure rfl (vwant_none rfl) (fun _ _ h => h) (fun LL aa ww cc => ⟨.int .u8 (x2 : Int), by have e0 : aa.tmps.getD 38 undef = .pointer (some ⟨b, o + 2, none⟩) := cc.slot 9 38 (by kernel_rfl) rfl; obtain ⟨m0, m1, m2, m3⟩ := MC.out _ cc.world; simp only [execOp, Act.eval, e0]; go_simp, rfl⟩)
          | 11, _ => exact vstep_first rfl (vwant_none rfl) (fun _ _ h => h) 6 (Or.inl rfl) (by kernel_rfl) rfl
          | 12, _ => exact vstep_pure rfl (vwant_none rfl) (fun _ _ h => h) (fun LL aa ww cc => ⟨.pointer (some ⟨b, o + 3, none⟩), by have e0 : aa.tmps.getD 40 undef = .slice (some ⟨b, o, none⟩) m6 c6 := cc.slot 11 40 (by kernel_rfl) rfl; have q1 : (3 : Int) < m6 := (by have := H4.out; omega); simp only [execOp, Act.eval, e0]; go_simp, rfl⟩)
          | 13, _ => exact vstep_pure rfl (vwant_none rfl) (fun _ _ h => h) (fun LL aa ww cc => ⟨.int .u8 (x3 : Int), by have e0 : aa.tmps.getD 41 undef = .pointer (some ⟨b, o + 3, none⟩) := cc.slot 12 41 (by kernel_rfl) rfl; obtain ⟨m0, m1, m2, m3⟩ := MC.out _ cc.world; simp only [execOp, Act.eval, e0]; go_simp, rfl⟩)
          | 14, _ => exact vstep_build rfl (vwant_none rfl) (fun _ _ h => h) _ _ rfl #[(0, .int .u8 (x0 : Int)), (1, .int .u8 (x1 : Int)), (2, .int .u8 (x2 : Int)), (3, .int .u8 (x3 : Int))] #[.int .u8 (x0 : Int), .int .u8 (x1 : Int), .int .u8 (x2 : Int), .int .u8 (x3 : Int)] (fun LL aa ww cc => by have e0 : aa.eval (.tmp 33) = .int .u8 (x0 : Int) := cc.slot 4 33 (by kernel_rfl) rfl; have e1 : aa.eval (.tmp 36) = .int .u8 (x1 : Int) := cc.slot 7 36 (by kernel_rfl) rfl; have e2 : aa.eval (.tmp 39) = .int .u8 (x2 : Int) := cc.slot 10 39 (by kernel_rfl) rfl; have e3 : aa.eval (.tmp 42) = .int .u8 (x3 : Int) := cc.slot 13 42 (by kernel_rfl) rfl; simp only [List.map_toArray, List.map_cons, List.map_nil, e0, e1, e2, e3]) (by kernel_rfl) rfl
          | 15, _ => exact vstep_pure rfl (vwant_none rfl) (fun _ _ h => h) (fun LL aa ww cc => ⟨.pointer (some ⟨B4, i * 4, none⟩), by have e0 : aa.tmps.getD 29 undef = .slice (some ⟨B4, 0, none⟩) n4 n4 := cc.slot 0 29 (by kernel_rfl) rfl; have e1 : aa.tmps.getD 30 undef = .int .i64 (i : Int) := cc.slot 1 30 (by kernel_rfl) rfl; have q1 : (i : Int) < n4 := (by have := HLT.out; omega); simp only [execOp, Act.eval, e0, e1]; go_simp, rfl⟩)
          | n + 16, h => exact absurd h (by show ¬ (n + 16 < 16); omega)
        · intro L5 w5 hall hJ
          obtain rfl := hJ
          clear MC hall
          simp only [List.zip_cons_cons, List.zip_nil_right, putsL]
          go_simp
          have HBD : Hid (Blk wr.drew B4 (insC M)) := Lib.hid HBLK.out.drew
          have hiM : i < M.length := by rw [HML.out]; exact HLT.out
          go_wp2_with ((with_reducible show wpList _ _ _ (Oper.mk _ (Op.store _ _ _) _ _ _ _ :: _) _ _); refine wpList_storeIns rfl _ _ rfl B4 i M ⟨x0, x1, x2, x3⟩ hiM rfl rfl HBD.out ?_)
          intro w6 hb6 hg6
          have HF : Hid (DcRel w l n4 B4 (.int .i64 ((i + 1 : Nat) : Int)) w6) := Lib.hid (by
            have hil : i < (insOf l).length := by rw [HN4.out]; exact HLT.out
            have hins : (insOf l)[i] = ⟨x0, x1, x2, x3⟩ := by rw [← HX.out]; simp [insOf]
            refine ⟨i + 1, M.set i ⟨x0, x1, x2, x3⟩, HLT.out, rfl, hb6, by rw [List.length_set]; exact HML.out, ?_, ?_⟩
            · rw [← hins]; exact take_set_succ HMT.out hiM hil
            · refine HBEL.out.drew.grown hg6 (HBEL.out.drew.size) (fun j e => ?_)
              injection e with e
              rw [← e, HE4.out]; exact Nat.le_refl _)
          clear hb6 hg6 HBD hiM HBLK HBEL HMT HML HX
          go_wp2
          go_roundw
          case rel => first | exact HF.out | (have e5 : ((i : Int) + 1) = ((i + 1 : Nat) : Int) := by omega
                                              rw [e5]; exact HF.out)
          case measure => simp [intOf]; omega
      · have hlt2 : ¬ (i : Int) < n4 := by omega
        have hMe : M = insOf l := by
          have h := HMT.out
          have hi := HI.out
          have hin : i = n4 := by omega
          rwa [hin, List.take_of_length_le (by rw [HML.out]; exact Nat.le_refl _), List.take_of_length_le (by rw [HN4.out]; exact Nat.le_refl _)] at h
        subst hMe
        have HR4 : Hid (RIn wr wr.heap.size (some ⟨B4, 0, none⟩) (insOf l)) := Lib.hid (rin_blk HBLK.out (insOf_fits l))
        have HCK : Hid (Calls Tryd.prog 15 #[.slice (some ⟨B4, 0, none⟩) n4 n4] wr (RetErr wr (check (insOf l)))) := Lib.hid (by
          have := check_calls wr (some ⟨B4, 0, none⟩) n4 (insOf l) HR4.out (by rw [HN4.out]; omega)
          rwa [HN4.out] at this)
        have HGW : Hid (Hdl wr) := Lib.hid (HG.out.below HBEL.out HG.out.lt)
        clear HBLK HML HMT HI hlt2
        go_wp2_with fail
        refine HCK.out.mono ?_
        rintro e w2 ⟨⟨v, rfl, hv⟩, hb2⟩
        have HB2 : Hid (Below w.heap.size w w2) := Lib.hid (HBEL.out.trans (hb2.mono HBEL.out.size))
        have HR5 : Hid (RIn w2 w2.heap.size (some ⟨B4, 0, none⟩) (insOf l)) := Lib.hid ((HR4.out.below hb2).mono hb2.size)
        have HGW2 : Hid (Hdl w2) := Lib.hid (HGW.out.below hb2 HGW.out.lt)
        clear hb2 HCK HR4 HGW HBEL
        obtain ⟨R, hR⟩ : ∃ R, R = check (insOf l) := ⟨_, rfl⟩
        rw [← hR] at hv
        cases R with
        | none =>
          obtain rfl := (show v = .nilIface from hv)
          have HC := Lib.hid hR
          clear hR hv
          go_wp2
          go_ret2
          exact ⟨⟨.slice (some ⟨B4, 0, none⟩) n4 n4, .nilIface, rfl, .inr (.inl ⟨by have := HM4.out; rw [← HN.out]; omega, HC.out.symm, rfl, some ⟨B4, 0, none⟩, n4, by rw [HN4.out], HR5.out⟩)⟩, HB2.out⟩
        | some ck =>
          obtain ⟨cc, k⟩ := ck
          obtain ⟨g, rfl, hg⟩ := (show ∃ g, v = .iface 58 (.pointer (some ⟨g, 0, none⟩)) ∧ Box w2 g [.int .i64 cc, .int .i64 k, .nilIface] from hv)
          have HC := Lib.hid hR
          have HBX := Lib.hid hg
          have HKL : Hid (k ≤ 1000000) := Lib.hid (by have := (check_lt hR.symm).1; rw [HN4.out] at this; omega)
          clear hR hv hg
          go_wp2_with fail
          refine (path_hit w2 g cc k HGW2.out HBX.out).mono ?_
          rintro e w3 ⟨gp, cp, rfl, hcp, hgp, hb3⟩
          have HB3 : Hid (Below w.heap.size w w3) := Lib.hid (HB2.out.trans (hb3.mono HB2.out.size))
          have HBX3 : Hid (Box w3 g [.int .i64 cc, .int .i64 k, .nilIface]) := Lib.hid (HBX.out.below hb3 HBX.out.lt)
          have HGW3 : Hid (Hdl w3) := Lib.hid (HGW2.out.below hb3 HGW2.out.lt)
          have eqk : wrap64 ((4 * k : Nat) : Int) = ((4 * k : Nat) : Int) := by have := HKL.out; unfold wrap64; omega
          have eqk2 : (4 : Int) * (k : Int) = ((4 * k : Nat) : Int) := by omega
          obtain ⟨k4, hk4⟩ : ∃ k4, k4 = 4 * k := ⟨_, rfl⟩
          have HK4 := Lib.hid hk4
          rw [← hk4] at eqk eqk2
          clear hb3 HB2 HBX HGW2 hk4 hgp
          go_wp2_with fail
          refine (In_calls w3 g cc k k4 HGW3.out HBX3.out).mono ?_
          rintro e w4 ⟨g2, rfl, hx1, hx2, hb4⟩
          have HB4 : Hid (Below w.heap.size w w4) := Lib.hid (HB3.out.trans (hb4.mono HB3.out.size))
          have HX1 := Lib.hid hx1
          have HX2 := Lib.hid hx2
          clear hb4 HB3 hx1 hx2 hcp
          go_wp2
          go_ret2
          exact ⟨⟨_, _, rfl, .inr (.inr ⟨by have := HM4.out; rw [← HN.out]; omega, cc, k, HC.out.symm, rfl, g, g2, rfl, by rw [← HK4.out]; exact HX1.out, HX2.out⟩)⟩, HB4.out⟩
  · have HE : Hid (n % 4 ≠ 0) := Lib.hid hm
    have eq1 : ((n : Int) % 4 != 0) = true := by simp; omega
    have eq2 : (n : Int) / 4 = (n4 : Int) := by omega
    have HN4' := Lib.hid hn4
    clear hm hn4
    go_enter Tryd.func4, Tryd.ntmps4
    go_wp2_with fail
    refine (fault_new w 2 n4 (by omega)).mono ?_
    rintro e w2 ⟨⟨v, rfl, g, rfl, hx⟩, hb2⟩
    have HX := Lib.hid hx
    have HB2 := Lib.hid hb2
    clear hx hb2
    go_wp2
    go_ret2
    exact ⟨⟨_, _, rfl, .inl ⟨by rw [← HN.out]; exact HE.out, rfl, g, rfl, by rw [← HN.out, ← HN4'.out]; exact HX.out⟩⟩, HB2.out⟩
end Go.Proofs.YtlecpekgnlaneaaDoor
