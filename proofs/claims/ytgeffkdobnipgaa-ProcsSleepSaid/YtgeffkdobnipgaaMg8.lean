/- Bundle 8 of the texts RefPlainP, RefRd, RefSt, RefFg, RefFg2, RefWk, RefAsk. -/
import Derived.Test.YtgeffkdobnipgaaMg7
/- The document's set, in plain Lean: what is in it, what keeps its calls from harm. No program in sight. -/
namespace Nac.Procs
structure Wt where
  p : Nat
  r : Int
  left : Int
  item : Int
instance : Inhabited Wt := ⟨⟨0, 0, 0, 0⟩⟩
structure RSt where
  prs : List Int
  rs : List RIn
  ready : List Nat
  wts : List Wt
  items : List (List Int)
  lasts : List Out
instance : Inhabited RIn := ⟨⟨0, 0, 0⟩⟩
instance : Inhabited Out := ⟨ok⟩
/-- who runs, of a row -/
def rbest (prs : List Int) : List Nat → Int
  | [] => -1
  | p :: l => if rbest prs l < 0 ∨ prs.getD (rbest prs l).toNat 0 ≤ prs.getD p 0 then p else rbest prs l
def rrun (M : RSt) : Int := rbest M.prs M.ready
theorem rbest_lt (prs : List Int) (n : Nat) : ∀ l : List Nat, (∀ p ∈ l, p < n) → rbest prs l = -1 ∨ ∃ p : Nat, rbest prs l = p ∧ p < n
  | [], _ => .inl rfl
  | p :: l, h => by
    unfold rbest
    split
    · exact .inr ⟨p, rfl, h p (by simp)⟩
    · rcases rbest_lt prs n l (fun q hq => h q (by simp [hq])) with h1 | h1
      · rename_i h2; omega
      · exact .inr h1
/-- after b acts -/
structure RInv (M : RSt) (b : Nat) : Prop where
  n1 : 1 ≤ M.prs.length
  n8 : M.prs.length ≤ 8
  m8 : M.rs.length ≤ 8
  nl : M.lasts.length = M.prs.length
  ni : M.items.length = M.rs.length
  rdy : ∀ p ∈ M.ready, p < M.prs.length
  wp : ∀ x ∈ M.wts, x.p < M.prs.length
  rl : M.ready.length ≤ 200 * b
  wl : M.wts.length ≤ b
  lf : ∀ x ∈ M.wts, -1000 ≤ x.left + b ∧ x.left ≤ 1048576
  cnt : ∀ r, r < M.rs.length → 0 ≤ (M.rs.getD r default).count ∧ (M.rs.getD r default).count ≤ (M.rs.getD r default).most ∧ (M.rs.getD r default).most ≤ 16
  it : ∀ r, r < M.rs.length → (M.rs.getD r default).kind = 2 → (M.rs.getD r default).count = (M.items.getD r []).length
  il : ∀ r, (M.items.getD r []).length ≤ 16
  kd : ∀ r, r < M.rs.length → 0 ≤ (M.rs.getD r default).kind ∧ (M.rs.getD r default).kind ≤ 2 ∧ 1 ≤ (M.rs.getD r default).most
def forgetL (l : List Wt) (p : Nat) : List Wt := l.filter fun x => !(x.p == p)
def wakesM (M : RSt) (p : Nat) (o : Out) : RSt := { M with wts := forgetL M.wts p, lasts := M.lasts.set p o, ready := M.ready ++ [p] }
def wcells (x : Wt) : List Go.Value := [.int .i64 (x.p : Int), .int .i64 x.r, .int .i64 x.left, .int .i64 x.item]
def rincells (x : RIn) : List Go.Value := [.int .i64 x.kind, .int .i64 x.count, .int .i64 x.most]
theorem wcells_len (l : List Wt) : ∀ x ∈ l.map wcells, x.length = 4 := fun x hx => by obtain ⟨y, _, rfl⟩ := List.mem_map.1 hx; rfl
theorem rincells_len (l : List RIn) : ∀ x ∈ l.map rincells, x.length = 3 := fun x hx => by obtain ⟨y, _, rfl⟩ := List.mem_map.1 hx; rfl
end Nac.Procs
namespace Go.Proofs.Ytgeffkdobnipgaa
open Go.RowKit Nac Nac.Procs
theorem ocs_len (l : List Out) : ∀ x ∈ l.map ocs, x.length = 3 := fun x hx => by obtain ⟨y, _, rfl⟩ := List.mem_map.1 hx; rfl
def lensOf (M : RSt) : Nat → Nat
  | 0 => M.prs.length
  | 1 => M.rs.length
  | 2 => M.ready.length
  | 3 => M.wts.length
  | 4 => M.items.length
  | 5 => M.lasts.length
  | i + 6 => (M.items.getD i []).length
def rowsOf (M : RSt) (A : Nat → Option Addr) (c : Nat → Nat) : Nat → List Value
  | 0 => M.prs.map (Value.int .i64)
  | 1 => (M.rs.map rincells).flatten
  | 2 => nums M.ready
  | 3 => (M.wts.map wcells).flatten
  | 4 => (List.range M.items.length).map fun i => Value.slice (A (6 + i)) (M.items.getD i []).length (c (6 + i))
  | 5 => (M.lasts.map ocs).flatten
  | i + 6 => (M.items.getD i []).map (Value.int .i64)
def RefM (w : World) (R : Nat) (M : RSt) (A : Nat → Option Addr) (c : Nat → Nat) : Prop := Mem w R M.items.length (rowsOf M A c) (lensOf M) A c
section
variable {w w' w0 : World} {R : Nat} {M : RSt} {A A0 : Nat → Option Addr} {c : Nat → Nat}
theorem rows_4 (M : RSt) (A A' : Nat → Option Addr) (c c' : Nat → Nat) (hA : ∀ j, 6 ≤ j → A j = A' j) (hc : ∀ j, 6 ≤ j → c j = c' j) : rowsOf M A c = rowsOf M A' c' := by
  funext j
  match j with
  | 0 | 1 | 2 | 3 | 5 => rfl
  | 4 =>
    show (List.range M.items.length).map _ = (List.range M.items.length).map _
    refine List.map_congr_left fun i _ => ?_
    rw [hA _ (by omega), hc _ (by omega)]
  | i + 6 => rfl
theorem RefM.ready (h : RefM w R M A c) {A2 : Option Addr} {c2 : Nat} {l : List Nat} (hr : Row w' 3 1 A2 c2 l.length (nums l)) (hg : w.grownBy w' ((A 2).map (·.block))) (hb : NewB w (A 2) A2) :
    RefM (w'.setCell ⟨R, 2, none⟩ (.slice A2 l.length c2)) R { M with ready := l } (upA A 2 A2) (upC c 2 c2) ∧ FrS R A w (upA A 2 A2) (w'.setCell ⟨R, 2, none⟩ (.slice A2 l.length c2)) := by
  obtain ⟨h1, h2⟩ := Mem.put h (.inl rfl) (L2 := nums l) hr hg hb
  refine ⟨?_, h2⟩
  have e1 : upL (rowsOf M A c) 2 (nums l) = rowsOf { M with ready := l } (upA A 2 A2) (upC c 2 c2) := by
    rw [← rows_4 { M with ready := l } A (upA A 2 A2) c (upC c 2 c2) (fun j hj => (upA_ne A A2 (by omega)).symm) (fun j hj => (upC_ne c c2 (by omega)).symm)]
    funext j
    match j with
    | 0 | 1 | 2 | 3 | 4 | 5 => rfl
    | i + 6 => exact upL_ne _ _ (by omega)
  have e2 : upC (lensOf M) 2 l.length = lensOf { M with ready := l } := by
    funext j
    match j with
    | 0 | 1 | 2 | 3 | 4 | 5 => rfl
    | i + 6 => exact upC_ne _ _ (by omega)
  rw [e1, e2] at h1
  exact h1
theorem RefM.wts (h : RefM w R M A c) {A2 : Option Addr} {c2 : Nat} {l : List Wt} (hr : Row w' 83 4 A2 c2 l.length (l.map wcells).flatten) (hg : w.grownBy w' ((A 3).map (·.block))) (hb : NewB w (A 3) A2) :
    RefM (w'.setCell ⟨R, 3, none⟩ (.slice A2 l.length c2)) R { M with wts := l } (upA A 3 A2) (upC c 3 c2) ∧ FrS R A w (upA A 3 A2) (w'.setCell ⟨R, 3, none⟩ (.slice A2 l.length c2)) := by
  obtain ⟨h1, h2⟩ := Mem.put h (.inr rfl) (L2 := (l.map wcells).flatten) hr hg hb
  refine ⟨?_, h2⟩
  have e1 : upL (rowsOf M A c) 3 (l.map wcells).flatten = rowsOf { M with wts := l } (upA A 3 A2) (upC c 3 c2) := by
    rw [← rows_4 { M with wts := l } A (upA A 3 A2) c (upC c 3 c2) (fun j hj => (upA_ne A A2 (by omega)).symm) (fun j hj => (upC_ne c c2 (by omega)).symm)]
    funext j
    match j with
    | 0 | 1 | 2 | 3 | 4 | 5 => rfl
    | i + 6 => exact upL_ne _ _ (by omega)
  have e2 : upC (lensOf M) 3 l.length = lensOf { M with wts := l } := by
    funext j
    match j with
    | 0 | 1 | 2 | 3 | 4 | 5 => rfl
    | i + 6 => exact upC_ne _ _ (by omega)
  rw [e1, e2] at h1
  exact h1
theorem RefM.items (h : RefM w R M A c) {i : Nat} (hi : i < M.items.length) {g : Nat} (hA4 : A 4 = some ⟨g, 0, none⟩) {A2 : Option Addr} {c2 : Nat} {l : List Int} (hr : Row w' 2 1 A2 c2 l.length (l.map (Value.int .i64))) (hg : w.grownBy w' ((A (6 + i)).map (·.block))) (hb : NewB w (A (6 + i)) A2) :
    RefM (w'.setCell ⟨g, i, none⟩ (.slice A2 l.length c2)) R { M with items := M.items.set i l } (upA A (6 + i) A2) (upC c (6 + i) c2) ∧ FrS R A w (upA A (6 + i) A2) (w'.setCell ⟨g, i, none⟩ (.slice A2 l.length c2)) := by
  obtain ⟨h1, h2⟩ := Mem.putI h hi hA4 (L2 := l.map (Value.int .i64)) hr hg hb
  refine ⟨?_, h2⟩
  have hl : (M.items.set i l).length = M.items.length := List.length_set ..
  have hgi : (M.items.set i l).getD i [] = l := by simp [List.getD, hi]
  have hgn : ∀ j, j ≠ i → (M.items.set i l).getD j [] = M.items.getD j [] := fun j e => by simp [List.getD, List.getElem?_set_ne (Ne.symm e)]
  have e1 : upL (upL (rowsOf M A c) (6 + i) (l.map (Value.int .i64))) 4 ((rowsOf M A c 4).set i (.slice A2 l.length c2)) = rowsOf { M with items := M.items.set i l } (upA A (6 + i) A2) (upC c (6 + i) c2) := by
    funext j
    match j with
    | 0 | 1 | 2 | 3 | 5 => rw [upL_ne _ _ (by omega), upL_ne _ _ (by omega)]; rfl
    | 4 =>
      rw [upL_same]
      show ((List.range M.items.length).map fun i => Value.slice (A (6 + i)) (M.items.getD i []).length (c (6 + i))).set i _ = (List.range (M.items.set i l).length).map fun j => Value.slice (upA A (6 + i) A2 (6 + j)) ((M.items.set i l).getD j []).length (upC c (6 + i) c2 (6 + j))
      rw [hl]
      refine List.ext_getElem (by simp) fun x h1 h2 => ?_
      by_cases e : x = i
      · subst e
        rw [List.getElem_set_self, List.getElem_map, List.getElem_range, upA_same, upC_same, hgi]
      · rw [List.getElem_set_ne (fun e' => e e'.symm)]
        simp only [List.getElem_map, List.getElem_range]
        rw [upA_ne A A2 (by omega), upC_ne c c2 (by omega), hgn x e]
    | x + 6 =>
      rw [upL_ne _ _ (by omega)]
      show _ = ((M.items.set i l).getD x []).map (Value.int .i64)
      by_cases e : x = i
      · subst e
        rw [show x + 6 = 6 + x from Nat.add_comm _ _, upL_same, hgi]
      · rw [upL_ne _ _ (by omega), hgn x e]
        rfl
  have e2 : upC (lensOf M) (6 + i) l.length = lensOf { M with items := M.items.set i l } := by
    funext j
    match j with
    | 0 | 1 | 2 | 3 | 5 => exact upC_ne _ _ (by omega)
    | 4 => rw [upC_ne _ _ (by omega)]; exact hl.symm
    | x + 6 =>
      show _ = ((M.items.set i l).getD x []).length
      by_cases e : x = i
      · subst e
        rw [show x + 6 = 6 + x from Nat.add_comm _ _, upC_same, hgi]
      · rw [upC_ne _ _ (by omega), hgn x e]
        rfl
  unfold RefM
  rw [show ({ M with items := M.items.set i l } : RSt).items.length = M.items.length from hl, ← e1, ← e2]
  exact h1
end
end Go.Proofs.Ytgeffkdobnipgaa
/- The document's set: without, Running, State, Queue. -/
namespace Go.Proofs.Ytgeffkdobnipgaa
open Go.RowKit Nac Nac.Procs
/-- a new row of processes -/
structure FrL (w : World) (L : List Nat) (A : Option Addr) (c : Nat) (wr : World) : Prop where
  row : Row wr 3 1 A c L.length (nums L)
  below : Below w.heap.size w wr
  fresh : ∀ g, A.map (·.block) = some g → w.heap.size ≤ g
def RetFr (w : World) (L : List Nat) (e : Ending) (w' : World) : Prop := ∃ A c, e = .returned (.slice A L.length c) ∧ FrL w L A c w'
theorem FrL.start (w : World) : FrL w [] none 0 w := ⟨Row.nil _ _ _, Below.refl _ _, fun g h => (by cases h)⟩
theorem FrL.app {w wr w2 : World} {L : List Nat} {A A2 : Option Addr} {c c2 x m : Nat} (h : FrL w L A c wr) (hm : m = L.length) (hr : Row w2 3 1 A2 c2 (m + 1) (nums L ++ [.int .i64 (x : Int)])) (hg : (wr.alloc (.cells #[.int .i64 (x : Int)] 3)).grownBy w2 (A.map (·.block))) (hb : NewB (wr.alloc (.cells #[.int .i64 (x : Int)] 3)) A A2) : FrL w (L ++ [x]) A2 c2 w2 := by
  have hba : Below wr.heap.size wr (wr.alloc (.cells #[.int .i64 (x : Int)] 3)) := (Below.refl _ _).alloc (Nat.le_refl _) _
  refine ⟨?_, ?_, fun g hgg => ?_⟩
  · rw [show (L ++ [x]).length = m + 1 by simp [hm], show nums (L ++ [x]) = nums L ++ [.int .i64 (x : Int)] by simp [nums]]
    exact hr
  · refine (h.below.trans (hba.mono h.below.size)).trans (grown_below hg (Nat.le_trans h.below.size hba.size) fun k e => h.fresh k e)
  · rcases hb with e | e
    · exact h.fresh g (e.symm.trans hgg)
    · exact Nat.le_trans h.below.size (Nat.le_trans hba.size (e g hgg))
set_option maxHeartbeats 1000000 in
theorem rwithout_calls (w : World) (A : Option Addr) (c : Nat) (l : List Nat) (n : Nat) (hn : n = l.length) (hr : Row w 3 1 A c l.length (nums l)) (h8 : n ≤ 100000) (p : Nat) :
    Calls Try.prog 50 #[.slice A n c, .int .i64 (p : Int)] w (RetFr w (without l p)) := by
  have HR := Lib.hid hr
  have HN := Lib.hid hn
  have H0 : Hid (FrL w (without (l.take 0) p) none 0 w) := Lib.hid (FrL.start w)
  clear hr hn
  go_enter Try.func50, Try.ntmps50
  go_wp2
  go_loopw [5, 6] (fun s5 s6 wr => ∃ (k m : Nat) (A' : Option Addr) (c' : Nat), k ≤ n ∧ s6 = .int .i64 (k : Int) ∧ s5 = .slice A' m c' ∧ Hid (m = (without (l.take k) p).length) ∧ FrL w (without (l.take k) p) A' c' wr) (fun _ s6 _ => n - (intOf s6).toNat)
  case atStart => exact ⟨0, 0, none, 0, Nat.zero_le _, rfl, rfl, Lib.hid rfl, H0.out⟩
  case round =>
    obtain ⟨k, m, A', c', hk, rfl, rfl, HM, hfr⟩ := hrel
    have HF := Lib.hid hfr
    by_cases hlt : k < n
    · have hkl : k < l.length := by rw [← HN.out]; exact hlt
      obtain ⟨g, hA, hg, hc, _⟩ := HR.out.at (j := k) (by rw [nums_len]; exact hkl)
      obtain ⟨x, hx⟩ : ∃ x, x = l[k] := ⟨_, rfl⟩
      have hc' : wr.cell? ⟨g, k, none⟩ = some (.int .i64 (x : Int)) := by rw [hfr.below.cell hg, hc]; simp [nums, hx]
      have hsn := without_snoc l p k hkl
      rw [← hx] at hsn
      have HSN := Lib.hid hsn
      have hm8 : m ≤ 100000 := by have h1 := HM.out; have h2 := without_le (l.take k) p; have h3 : (l.take k).length ≤ k := List.length_take_le k l; omega
      subst hA
      clear hfr hg hc hx hkl hsn H0
      by_cases he : x = p
      · have hb : ((x : Int) != (p : Int)) = false := by simp [he]
        have hb2 : ((x : Int) == (p : Int)) = true := by simp [he]
        have HR2 : Hid (FrL w (without (l.take (k + 1)) p) A' c' wr ∧ m = (without (l.take (k + 1)) p).length) := Lib.hid (by rw [HSN.out, if_pos he, List.append_nil]; exact ⟨HF.out, HM.out⟩)
        clear he HF HM HSN
        go_wp2
        go_roundw
        case rel => exact ⟨k + 1, m, A', c', by omega, by go_num, rfl, Lib.hid HR2.out.2, HR2.out.1⟩
        case measure => simp [intOf]; omega
      · have hb : ((x : Int) != (p : Int)) = true := by simp; omega
        have hb2 : ((x : Int) == (p : Int)) = false := by simp; omega
        have HR0 : Hid (Row (wr.alloc (.cells #[.int .i64 (x : Int)] 3)) 3 1 A' c' m (nums (without (l.take k) p))) := Lib.hid (by rw [HM.out]; exact HF.out.row.below ((Below.refl _ _).alloc (Nat.le_refl _) _))
        have HS0 : Hid ((wr.alloc (.cells #[.int .i64 (x : Int)] 3)).cell? ⟨wr.heap.size, 0, none⟩ = some (.int .i64 (x : Int))) := Lib.hid (by rw [World.cell?_alloc_at _ _ _ _ rfl]; rfl)
        have HNE := Lib.hid he
        clear he
        go_wp2_with (at_builtin; refine wpList_app_row Try.underlying28 Try.infoIt rfl (by decide) _ rfl _ _ rfl A' c' m (nums (without (l.take k) p)) rfl HR0.out wr.heap.size _ (.int .i64 (x : Int)) rfl rfl HS0.out (by omega) ?_)
        intro A2 c2 w2 hr2 hg2 hb3
        have HR2 : Hid (FrL w (without (l.take (k + 1)) p) A2 c2 w2 ∧ m + 1 = (without (l.take (k + 1)) p).length) := Lib.hid (by rw [HSN.out, if_neg HNE.out]; exact ⟨HF.out.app HM.out hr2 hg2 hb3, by simp [HM.out]⟩)
        clear hr2 hg2 hb3 HR0 HS0 HF HM HSN HNE
        go_wp2
        go_roundw
        case rel => exact ⟨k + 1, m + 1, A2, c2, by omega, by go_num, rfl, Lib.hid HR2.out.2, HR2.out.1⟩
        case measure => simp [intOf]; omega
    · have hkn : k = n := by omega
      have HFF : Hid (FrL w (without l p) A' c' wr ∧ m = (without l p).length) := Lib.hid (by have h1 := HM.out; rw [hkn, HN.out, List.take_length] at h1 hfr; exact ⟨hfr, h1⟩)
      subst hkn
      clear hfr HF H0
      go_wp2
      go_ret
      exact ⟨A', c', by rw [← HFF.out.2]; rfl, HFF.out.1⟩
theorem RefM.drewN {w : World} {R : Nat} {M : RSt} {A : Nat → Option Addr} {c : Nat → Nat} (h : RefM w R M A c) (d : Nat) : RefM (w.drewN d) R M A c := ⟨h.blk, h.row, h.l4, h.ap, h.aps⟩
theorem RefM.below {w w' : World} {R : Nat} {M : RSt} {A : Nat → Option Addr} {c : Nat → Nat} (h : RefM w R M A c) (hb : Below w.heap.size w w') : RefM w' R M A c := Mem.below h hb
/-- a cell of a row of one-cell elements -/
theorem RefM.at1 {w : World} {R : Nat} {M : RSt} {A : Nat → Option Addr} {c : Nat → Nat} (h : RefM w R M A c) {p : Nat} (hp : p < M.prs.length) : ∃ g, A 0 = some ⟨g, 0, none⟩ ∧ w.cell? ⟨g, p, none⟩ = some (.int .i64 (M.prs.getD p 0)) := by
  have hr : Row w 3 1 (A 0) (c 0) M.prs.length (M.prs.map (Value.int .i64)) := h.row 0
  obtain ⟨g, hA, _, hc, _⟩ := hr.at (j := p) (by simpa using hp)
  exact ⟨g, hA, by rw [hc]; simp [List.getD, hp]⟩
theorem RefM.at2 {w : World} {R : Nat} {M : RSt} {A : Nat → Option Addr} {c : Nat → Nat} (h : RefM w R M A c) {p : Nat} (hp : p < M.ready.length) : ∃ g, A 2 = some ⟨g, 0, none⟩ ∧ w.cell? ⟨g, p, none⟩ = some (.int .i64 ((M.ready.getD p 0 : Nat) : Int)) := by
  have hr : Row w 3 1 (A 2) (c 2) M.ready.length (nums M.ready) := h.row 2
  obtain ⟨g, hA, _, hc, _⟩ := hr.at (j := p) (by rw [nums_len]; exact hp)
  exact ⟨g, hA, by rw [hc]; simp [nums, List.getD, hp]⟩
theorem RefM.at3 {w : World} {R : Nat} {M : RSt} {A : Nat → Option Addr} {c : Nat → Nat} (h : RefM w R M A c) {p : Nat} (hp : p < M.wts.length) : ∃ g, A 3 = some ⟨g, 0, none⟩ ∧ (∀ f v, (wcells (M.wts.getD p default))[f]? = some v → w.cell? ⟨g, p * 4 + f, none⟩ = some v) ∧ ∀ k, w.frozen? ⟨g, k, none⟩ = false := by
  have hr : Row w 83 4 (A 3) (c 3) M.wts.length (M.wts.map wcells).flatten := h.row 3
  have hpl : p < (M.wts.map wcells).length := by simpa using hp
  obtain ⟨hj0, _⟩ := flat_get (wcells_len M.wts) (p := p) (f := 0) hpl (by decide)
  obtain ⟨g, hA, _, _, hf⟩ := hr.at hj0
  refine ⟨g, hA, fun f v hv => ?_, hf⟩
  have hf4 : f < 4 := by have := (List.getElem?_eq_some_iff.1 hv).1; simpa [wcells] using this
  obtain ⟨hj, he⟩ := flat_get (wcells_len M.wts) (p := p) (f := f) hpl hf4
  obtain ⟨g', hA', _, hc, _⟩ := hr.at hj
  rw [hA] at hA'
  injection hA' with e
  injection e with e
  subst e
  rw [hc, he]
  have e1 : (M.wts.map wcells)[p] = wcells (M.wts.getD p default) := by simp [List.getD, hp]
  rw [← List.getElem?_eq_getElem (by rw [e1]; exact (List.getElem?_eq_some_iff.1 hv).1), e1]
  exact hv
theorem drop_cons {l : List Nat} {k : Nat} (h : k < l.length) : l.drop k = l.getD k 0 :: l.drop (k + 1) := by
  rw [List.drop_eq_getElem_cons h]
  simp [List.getD, h]
set_option maxHeartbeats 1000000 in
theorem rrunning_calls (w : World) (R : Nat) (M : RSt) (A : Nat → Option Addr) (c : Nat → Nat) (h : RefM w R M A c) (b : Nat) (hI : RInv M b) (hb : b ≤ 100) :
    Calls Try.prog 52 #[.pointer (some ⟨R, 0, none⟩)] w (RetId w (rrun M)) := by
  obtain ⟨n, hn⟩ : ∃ n, n = M.ready.length := ⟨_, rfl⟩
  obtain ⟨n0, hn0⟩ : ∃ n, n = M.prs.length := ⟨_, rfl⟩
  have hn8 : n ≤ 20000 := by have := hI.rl; omega
  have hn08 : n0 ≤ 8 := by rw [hn0]; exact hI.n8
  have H := Lib.hid h
  have HI := Lib.hid hI
  have HN := Lib.hid hn
  have HN0 := Lib.hid hn0
  have c2 : w.cell? ⟨R, 2, none⟩ = some (.slice (A 2) n (c 2)) := by rw [hn]; exact Mem.head h (by decide)
  have HS : Hid (rbest M.prs (M.ready.drop ((n : Int) - 1 + 1).toNat) = -1) := Lib.hid (by rw [show ((n : Int) - 1 + 1).toNat = n by omega, hn, List.drop_length]; rfl)
  clear h hI hn hn0 hb
  go_enter Try.func52, Try.ntmps52
  go_wp2
  clear c2
  go_loopw [3, 4] (fun s3 s4 wr => ∃ (i best : Int), s4 = .int .i64 i ∧ -1 ≤ i ∧ i < n ∧ s3 = .int .i64 best ∧ Hid (rbest M.prs (M.ready.drop (i + 1).toNat) = best) ∧ ∃ d, wr = w.drewN d) (fun _ s4 _ => (intOf s4 + 1).toNat)
  case atStart => exact ⟨(n : Int) - 1, -1, rfl, by omega, by omega, rfl, HS, 0, rfl⟩
  case round =>
    obtain ⟨i, best, rfl, hi1, hi2, rfl, HB, d, rfl⟩ := hrel
    by_cases h0 : 0 ≤ i
    · obtain ⟨j, rfl⟩ : ∃ j : Nat, i = j := ⟨i.toNat, by omega⟩
      have hjn : j < n := by omega
      have hjl : j < M.ready.length := by rw [← HN.out]; exact hjn
      obtain ⟨g2, hA2, hc2⟩ := H.out.at2 hjl
      obtain ⟨q, hq⟩ : ∃ q, q = M.ready.getD j 0 := ⟨_, rfl⟩
      rw [← hq] at hc2
      have hqn : q < M.prs.length := HI.out.rdy q (by rw [hq]; simp [List.getD, hjl])
      obtain ⟨g0, hA0, hc0⟩ := H.out.at1 hqn
      obtain ⟨pq, hpq⟩ : ∃ x, x = M.prs.getD q 0 := ⟨_, rfl⟩
      rw [← hpq] at hc0
      have hqn0 : q < n0 := by rw [HN0.out]; exact hqn
      have c2 : w.cell? ⟨R, 2, none⟩ = some (.slice (some ⟨g2, 0, none⟩) n (c 2)) := by rw [HN.out, ← hA2]; exact Mem.head H.out (by decide)
      have c0 : w.cell? ⟨R, 0, none⟩ = some (.slice (some ⟨g0, 0, none⟩) n0 (c 0)) := by rw [HN0.out, ← hA0]; exact Mem.head H.out (by decide)
      have hdr := drop_cons hjl
      rw [← hq] at hdr
      have HB1 : Hid (rbest M.prs (M.ready.drop (j + 1)) = best) := Lib.hid HB.out
      have HDR : Hid (rbest M.prs (M.ready.drop ((j : Int) - 1 + 1).toNat) = if best < 0 ∨ M.prs.getD best.toNat 0 ≤ pq then (q : Int) else best) := Lib.hid (by
        rw [show ((j : Int) - 1 + 1).toNat = j by omega, hdr]
        unfold rbest
        rw [HB1.out, ← hpq])
      have HPQ := Lib.hid hpq
      rcases rbest_lt M.prs M.prs.length (M.ready.drop (j + 1)) (fun p hp => HI.out.rdy p (List.mem_of_mem_drop hp)) with hbb | ⟨bq, hbb, hbl⟩
      · obtain rfl : best = -1 := by rw [← HB1.out]; exact hbb
        have HD2 : Hid (rbest M.prs (M.ready.drop ((j : Int) - 1 + 1).toNat) = q) := Lib.hid (by rw [HDR.out, if_pos (.inl (by decide))])
        clear hq hqn hA2 hA0 hdr hpq hbb HDR HB HB1 hjl
        go_wp2_with fail
        go_quiet (fail)
        go_wp2
        go_roundw
        case rel => exact ⟨(j : Int) - 1, q, rfl, by omega, by omega, rfl, HD2, _, rfl⟩
        case measure => simp [intOf] <;> omega
      · obtain rfl : best = bq := by rw [← HB1.out]; exact hbb
        obtain ⟨g0', hA0', hcb⟩ := H.out.at1 hbl
        rw [hA0] at hA0'
        injection hA0' with hA0'
        injection hA0' with hA0'
        subst hA0'
        obtain ⟨pb, hpb⟩ : ∃ x, x = M.prs.getD bq 0 := ⟨_, rfl⟩
        rw [← hpb] at hcb
        have hbn0 : bq < n0 := by rw [HN0.out]; exact hbl
        have hbneg : ¬ (bq : Int) < 0 := by omega
        by_cases hge : pb ≤ pq
        · have HD2 : Hid (rbest M.prs (M.ready.drop ((j : Int) - 1 + 1).toNat) = q) := Lib.hid (by rw [HDR.out, if_pos (.inr (by show M.prs.getD bq 0 ≤ pq; rw [← hpb]; exact hge))])
          clear hq hqn hA2 hA0 hdr hpq hbb HDR HB HB1 hjl hbl hpb
          go_wp2_with fail
          go_quiet (fail)
          go_wp2
          go_roundw
          case rel => exact ⟨(j : Int) - 1, q, rfl, by omega, by omega, rfl, HD2, _, rfl⟩
          case measure => simp [intOf] <;> omega
        · have HD2 : Hid (rbest M.prs (M.ready.drop ((j : Int) - 1 + 1).toNat) = bq) := Lib.hid (by rw [HDR.out, if_neg (by rintro (h1 | h1); exact hbneg h1; exact hge (by rw [hpb]; exact h1))])
          clear hq hqn hA2 hA0 hdr hpq hbb HDR HB HB1 hjl hbl hpb
          go_wp2_with fail
          go_quiet (fail)
          go_wp2
          go_roundw
          case rel => exact ⟨(j : Int) - 1, bq, rfl, by omega, by omega, rfl, HD2, _, rfl⟩
          case measure => simp [intOf] <;> omega
    · obtain rfl : i = -1 := by omega
      have HF : Hid (rrun M = best) := Lib.hid HB.out
      clear HB
      go_wp2
      go_ret
      exact ⟨by rw [HF.out]; rfl, _, rfl⟩
end Go.Proofs.Ytgeffkdobnipgaa
/- The document's set: stores; State, Queue. -/
namespace Go.Proofs.Ytgeffkdobnipgaa
open Go.RowKit Nac Nac.Procs
theorem s1Wts : (Try.prog.info? 76).map (·.size) = some 1 := by kernel_rfl
section
variable {w0 w w' : World} {R : Nat} {M : RSt} {A0 A : Nat → Option Addr} {c : Nat → Nat}
theorem Mem.free {k : Nat} {L : Nat → List Value} {n : Nat → Nat} (h : Mem w R k L n A c) (j : Nat) : w.frozen? ⟨R, j, none⟩ = false := h.blk.free j
/-- who is ready, anew -/
theorem wpList_rready {ops : Array Oper} {rest : List Oper} {o : Oper} {a : Act} {Q : Exit → Act → World → Prop} (hg : o.guard = none) (ty : TypeId) (x y : Operand) (hop : o.op = .store ty x y)
    (H : Hid (RefM w R M A c)) (HF : Hid (FrS R A0 w0 A w)) {A2 : Option Addr} {c2 : Nat} {L : List Nat} {n : Nat} (hn : n = L.length) (hr : Hid (Row w' 3 1 A2 c2 L.length (nums L))) (hgr : Hid (w.grownBy w' ((A 2).map (·.block)))) (hb : Hid (NewB w (A 2) A2))
    (hx : a.eval x = .pointer (some ⟨R, 2, none⟩)) (hy : a.eval y = .slice A2 n c2) (hi : (Try.prog.info? ty).map (·.size) = some 1)
    (h : ∀ w2, Hid (RefM w2 R { M with ready := L } (upA A 2 A2) (upC c 2 c2)) → Hid (FrS R A0 w0 (upA A 2 A2) w2) → Hid (w'.grownBy w2 (some R)) → wpList Try.prog ops Q rest (a.put o.dst undef) w2) : wpList Try.prog ops Q (o :: rest) a w' := by
  subst hn
  have hq := H.out.ready hr.out hgr.out hb.out
  have hblk := (Mem.blk H.out).grown hgr.out (Mem.aps H.out 2)
  refine wpList_store1 hg ty x y hop R 2 (.slice A2 L.length c2) _ hx hy (hblk.cell (j := 2) rfl) (hblk.free 2) hi rfl fun w2 hw2 => ?_
  rw [hw2.out]
  exact h _ (Lib.hid hq.1) (Lib.hid (HF.out.trans hq.2)) (Lib.hid (grown_setCell _ _ _))
/-- who waits, anew -/
theorem wpList_rwts {ops : Array Oper} {rest : List Oper} {o : Oper} {a : Act} {Q : Exit → Act → World → Prop} (hg : o.guard = none) (ty : TypeId) (x y : Operand) (hop : o.op = .store ty x y)
    (H : Hid (RefM w R M A c)) (HF : Hid (FrS R A0 w0 A w)) {A2 : Option Addr} {c2 : Nat} {L : List Wt} {n : Nat} (hn : n = L.length) (hr : Hid (Row w' 83 4 A2 c2 L.length (L.map wcells).flatten)) (hgr : Hid (w.grownBy w' ((A 3).map (·.block)))) (hb : Hid (NewB w (A 3) A2))
    (hx : a.eval x = .pointer (some ⟨R, 3, none⟩)) (hy : a.eval y = .slice A2 n c2) (hi : (Try.prog.info? ty).map (·.size) = some 1)
    (h : ∀ w2, Hid (RefM w2 R { M with wts := L } (upA A 3 A2) (upC c 3 c2)) → Hid (FrS R A0 w0 (upA A 3 A2) w2) → Hid (w'.grownBy w2 (some R)) → wpList Try.prog ops Q rest (a.put o.dst undef) w2) : wpList Try.prog ops Q (o :: rest) a w' := by
  subst hn
  have hq := H.out.wts hr.out hgr.out hb.out
  have hblk := (Mem.blk H.out).grown hgr.out (Mem.aps H.out 3)
  refine wpList_store1 hg ty x y hop R 3 (.slice A2 L.length c2) _ hx hy (hblk.cell (j := 3) rfl) (hblk.free 3) hi rfl fun w2 hw2 => ?_
  rw [hw2.out]
  exact h _ (Lib.hid hq.1) (Lib.hid (HF.out.trans hq.2)) (Lib.hid (grown_setCell _ _ _))
end
def RetAnyI (w : World) (e : Ending) (w' : World) : Prop := ∃ z : Int, e = .returned (.int .i64 z) ∧ w = w'
set_option maxHeartbeats 1000000 in
theorem rstate_calls (w : World) (R : Nat) (M : RSt) (A : Nat → Option Addr) (c : Nat → Nat) (h : RefM w R M A c) (b : Nat) (hI : RInv M b) (hb : b ≤ 100) (p : Int) :
    Calls Try.prog 48 #[.pointer (some ⟨R, 0, none⟩), .int .i64 p] w (RetAnyI w) := by
  obtain ⟨n, hn⟩ : ∃ n, n = M.ready.length := ⟨_, rfl⟩
  obtain ⟨n3, hn3⟩ : ∃ n, n = M.wts.length := ⟨_, rfl⟩
  have hn8 : n ≤ 20000 := by have := hI.rl; omega
  have hn38 : n3 ≤ 100 := by have := hI.wl; omega
  have H := Lib.hid h
  have HN := Lib.hid hn
  have HN3 := Lib.hid hn3
  clear h hI hn hn3 hb
  go_enter Try.func48, Try.ntmps48
  go_wp2
  go_loop [5] (fun s5 => ∃ k : Nat, k ≤ n ∧ s5 = .int .i64 (k : Int)) (fun s5 => n - (intOf s5).toNat)
  case atStart => exact ⟨0, Nat.zero_le _, rfl⟩
  case round =>
    obtain ⟨k, hk, rfl⟩ := hrel
    by_cases hlt : k < n
    · obtain ⟨g2, hA2, hc2⟩ := H.out.at2 (p := k) (by rw [← HN.out]; exact hlt)
      have c2 : w.cell? ⟨R, 2, none⟩ = some (.slice (some ⟨g2, 0, none⟩) n (c 2)) := by rw [HN.out, ← hA2]; exact Mem.head H.out (by decide)
      obtain ⟨q, hq⟩ : ∃ q : Int, q = ((M.ready.getD k 0 : Nat) : Int) := ⟨_, rfl⟩
      rw [← hq] at hc2
      clear hA2 hq
      by_cases he : q = p
      · subst he
        go_wp2
        go_ret
        exact ⟨1, rfl, rfl⟩
      · have he1 : (q == p) = false := by simpa using he
        clear he
        go_wp2
        go_round
        case rel => exact ⟨k + 1, by omega, by go_num⟩
        case measure => simp [intOf]; omega
    · have c2 : w.cell? ⟨R, 2, none⟩ = some (.slice (A 2) n (c 2)) := by rw [HN.out]; exact Mem.head H.out (by decide)
      go_wp2
      clear c2
      go_loop [6] (fun s6 => ∃ k : Nat, k ≤ n3 ∧ s6 = .int .i64 (k : Int)) (fun s6 => n3 - (intOf s6).toNat)
      case atStart => exact ⟨0, Nat.zero_le _, rfl⟩
      case round =>
        obtain ⟨j, hj, rfl⟩ := hrel
        by_cases hlt3 : j < n3
        · obtain ⟨g3, hA3, hc3, _⟩ := H.out.at3 (p := j) (by rw [← HN3.out]; exact hlt3)
          have c3 : w.cell? ⟨R, 3, none⟩ = some (.slice (some ⟨g3, 0, none⟩) n3 (c 3)) := by rw [HN3.out, ← hA3]; exact Mem.head H.out (by decide)
          obtain ⟨q, hq⟩ : ∃ q : Int, q = (((M.wts.getD j default).p : Nat) : Int) := ⟨_, rfl⟩
          have hc3' : w.cell? ⟨g3, j * 4, none⟩ = some (.int .i64 q) := by rw [hq]; exact hc3 0 _ rfl
          clear hA3 hq hc3
          by_cases he : q = p
          · subst he
            go_wp2
            go_ret
            exact ⟨2, rfl, rfl⟩
          · have he1 : (q == p) = false := by simpa using he
            clear he
            go_wp2
            go_round
            case rel => exact ⟨j + 1, by omega, by go_num⟩
            case measure => simp [intOf]; omega
        · have c3 : w.cell? ⟨R, 3, none⟩ = some (.slice (A 3) n3 (c 3)) := by rw [HN3.out]; exact Mem.head H.out (by decide)
          go_wp2
          go_ret
          exact ⟨0, rfl, rfl⟩
/-- what a queue's reading gives: processes of the set, no more than wait -/
def RetQl (w : World) (n m : Nat) (e : Ending) (w' : World) : Prop := ∃ L : List Nat, RetFr w L e w' ∧ (∀ p ∈ L, p < n) ∧ L.length ≤ m
set_option maxHeartbeats 1000000 in
theorem rqueue_calls (w : World) (R : Nat) (M : RSt) (A : Nat → Option Addr) (c : Nat → Nat) (h : RefM w R M A c) (b : Nat) (hI : RInv M b) (hb : b ≤ 100) (r : Int) (hr0 : 0 ≤ r) :
    Calls Try.prog 54 #[.pointer (some ⟨R, 0, none⟩), .int .i64 r] w (RetQl w M.prs.length M.wts.length) := by
  obtain ⟨n3, hn3⟩ : ∃ n, n = M.wts.length := ⟨_, rfl⟩
  have hn38 : n3 ≤ 100 := by have := hI.wl; omega
  have H := Lib.hid h
  have HI := Lib.hid hI
  have HN3 := Lib.hid hn3
  have H0 := Lib.hid (FrL.start w)
  clear h hI hn3 hb
  go_enter Try.func54, Try.ntmps54
  go_wp2
  go_loopw [5, 6] (fun s5 s6 wr => ∃ (k m : Nat) (L : List Nat) (A' : Option Addr) (c' : Nat), k ≤ n3 ∧ s6 = .int .i64 (k : Int) ∧ s5 = .slice A' m c' ∧ Hid (m = L.length) ∧ m ≤ k ∧ Hid (∀ p ∈ L, p < M.prs.length) ∧ FrL w L A' c' wr) (fun _ s6 _ => n3 - (intOf s6).toNat)
  case atStart => exact ⟨0, 0, [], none, 0, Nat.zero_le _, rfl, rfl, Lib.hid rfl, Nat.le_refl _, Lib.hid fun p hp => (by cases hp), H0.out⟩
  case round =>
    obtain ⟨k, m, L, A', c', hk, rfl, rfl, HM, hmk, HL, hfr⟩ := hrel
    have HF := Lib.hid hfr
    have HR : Hid (RefM wr R M A c) := Lib.hid (H.out.below hfr.below)
    by_cases hlt : k < n3
    · obtain ⟨g3, hA3, hc3, _⟩ := HR.out.at3 (p := k) (by rw [← HN3.out]; exact hlt)
      have c3 : wr.cell? ⟨R, 3, none⟩ = some (.slice (some ⟨g3, 0, none⟩) n3 (c 3)) := by rw [HN3.out, ← hA3]; exact Mem.head HR.out (by decide)
      obtain ⟨x, hx⟩ : ∃ x, x = (M.wts.getD k default).p := ⟨_, rfl⟩
      obtain ⟨q, hq⟩ : ∃ q, q = (M.wts.getD k default).r := ⟨_, rfl⟩
      have hc30 : wr.cell? ⟨g3, k * 4, none⟩ = some (.int .i64 (x : Int)) := by rw [hx]; exact hc3 0 _ rfl
      have hc31 : wr.cell? ⟨g3, k * 4 + 1, none⟩ = some (.int .i64 q) := by rw [hq]; exact hc3 1 _ rfl
      have hkl : k < M.wts.length := by rw [← HN3.out]; exact hlt
      have HXN : Hid (x < M.prs.length) := Lib.hid (by rw [hx, show M.wts.getD k default = M.wts[k] by simp [List.getD, hkl]]; exact HI.out.wp _ (List.getElem_mem hkl))
      clear hfr hA3 hc3 hx hq H0 HR hkl
      by_cases he : q = r
      · have hb1 : (q == r) = true := by simpa using he
        have HR0 : Hid (Row (wr.alloc (.cells #[.int .i64 (x : Int)] 3)) 3 1 A' c' m (nums L)) := Lib.hid (by rw [HM.out]; exact HF.out.row.below ((Below.refl _ _).alloc (Nat.le_refl _) _))
        have HS0 : Hid ((wr.alloc (.cells #[.int .i64 (x : Int)] 3)).cell? ⟨wr.heap.size, 0, none⟩ = some (.int .i64 (x : Int))) := Lib.hid (by rw [World.cell?_alloc_at _ _ _ _ rfl]; rfl)
        clear he
        go_wp2_with (at_builtin; refine wpList_app_row Try.underlying28 Try.infoIt rfl (by decide) _ rfl _ _ rfl A' c' m (nums L) rfl HR0.out wr.heap.size _ (.int .i64 (x : Int)) rfl rfl HS0.out (by omega) ?_)
        intro A2 c2 w2 hr2 hg2 hb3
        have HR2 : Hid (FrL w (L ++ [x]) A2 c2 w2) := Lib.hid (HF.out.app HM.out hr2 hg2 hb3)
        have HM2 : Hid (m + 1 = (L ++ [x]).length) := Lib.hid (by simp [HM.out])
        have HL2 : Hid (∀ p ∈ L ++ [x], p < M.prs.length) := Lib.hid fun p hp => by
          rcases List.mem_append.1 hp with h1 | h1
          · exact HL.out p h1
          · simp at h1; subst h1; exact HXN.out
        clear hr2 hg2 hb3 HR0 HS0 HF HM HL HXN
        go_wp2
        go_roundw
        case rel => exact ⟨k + 1, m + 1, L ++ [x], A2, c2, by omega, by go_num, rfl, HM2, by omega, HL2, HR2.out⟩
        case measure => simp [intOf]; omega
      · have hb1 : (q == r) = false := by simpa using he
        clear he
        go_wp2
        go_roundw
        case rel => exact ⟨k + 1, m, L, A', c', by omega, by go_num, rfl, HM, by omega, HL, HF.out⟩
        case measure => simp [intOf]; omega
    · have c3 : wr.cell? ⟨R, 3, none⟩ = some (.slice (A 3) n3 (c 3)) := by rw [HN3.out]; exact Mem.head HR.out (by decide)
      have HLE : Hid (L.length ≤ M.wts.length) := Lib.hid (by rw [← HM.out, ← HN3.out]; omega)
      clear hfr H0 HR
      go_wp2
      go_ret
      exact ⟨L, ⟨A', c', by rw [← HM.out]; rfl, HF.out⟩, HL.out, HLE.out⟩
end Go.Proofs.Ytgeffkdobnipgaa
/- The document's set: a row that lies there put in another's place; forget. -/
namespace Go.Proofs.Ytgeffkdobnipgaa
open Go.RowKit Nac Nac.Procs
section
variable {w0 w w' : World} {R k : Nat} {L : Nat → List Value} {n : Nat → Nat} {M : RSt} {A0 A : Nat → Option Addr} {c : Nat → Nat}
/-- a row of this world, apart from the set's, in the place of row j -/
theorem Mem.swap (h : Mem w R k L n A c) {j : Nat} (hj2 : j = 2 ∨ j = 3) {A2 : Option Addr} {c2 n2 : Nat} {L2 : List Value} (hr : Row w (tyR j) (szR j) A2 c2 n2 L2) (hb : ∀ g, A2.map (·.block) = some g → ¬ Foot R A g) :
    Mem (w.setCell ⟨R, j, none⟩ (.slice A2 n2 c2)) R k (upL L j L2) (upC n j n2) (upA A j A2) (upC c j c2) := by
  have hj6 : j < 6 := by omega
  refine ⟨?_, fun i => ?_, ?_, fun i l g hil hi hl => ?_, fun i hi => ?_⟩
  · have hs := h.blk.setCell j (.slice A2 n2 c2)
    rcases hj2 with rfl | rfl
    · exact hs
    · exact hs
  · by_cases e : i = j
    · subst e
      rw [upA_same, upC_same, upC_same, upL_same]
      exact hr.other (fun hx => hb R hx (.inl rfl)) _
    · rw [upA_ne A A2 e, upC_ne c c2 e, upC_ne n n2 e, upL_ne L L2 e]
      exact (h.row i).other (h.aps i) _
  · rw [upL_ne L L2 (by omega), h.l4]
    refine List.map_congr_left fun i _ => ?_
    rw [upA_ne A A2 (by omega), upC_ne n n2 (by omega), upC_ne c c2 (by omega)]
  · by_cases h1 : i = j
    · have h2 : l ≠ j := fun e => hil (h1.trans e.symm)
      rw [h1, upA_same] at hi
      rw [upA_ne A A2 h2] at hl
      exact hb g hi (.inr ⟨l, hl⟩)
    · rw [upA_ne A A2 h1] at hi
      by_cases h2 : l = j
      · rw [h2, upA_same] at hl
        exact hb g hl (.inr ⟨i, hi⟩)
      · rw [upA_ne A A2 h2] at hl
        exact h.ap i l g hil hi hl
  · by_cases h1 : i = j
    · rw [h1, upA_same] at hi; exact hb R hi (.inl rfl)
    · rw [upA_ne A A2 h1] at hi; exact h.aps i hi
theorem FrS.swap (HF : FrS R A0 w0 A w) {j : Nat} (hj2 : j = 2 ∨ j = 3) {A2 : Option Addr} {v : Value} (hR : Foot R A0 R) (hf : ∀ g, A2.map (·.block) = some g → w0.heap.size ≤ g) : FrS R A0 w0 (upA A j A2) (w.setCell ⟨R, j, none⟩ v) := by
  have f := HF.trans (FrS.grown (S := R) (A := A) (grown_setCell w ⟨R, j, none⟩ v) fun b e => .inl (.inl (by injection e with e; exact e.symm)))
  refine ⟨f.os, f.tape, f.output, f.size, f.block, fun x hx => ?_, (upA_ne A A2 (by omega)).trans f.p0, (upA_ne A A2 (by omega)).trans f.p1⟩
  rcases hx with rfl | ⟨i, hi⟩
  · exact .inl hR
  · by_cases h1 : i = j
    · rw [h1, upA_same] at hi; exact .inr (hf x hi)
    · rw [upA_ne A A2 h1] at hi; exact f.foot x (.inr ⟨i, hi⟩)
theorem RefM.ready2 (h : RefM w R M A c) {A2 : Option Addr} {c2 : Nat} {l : List Nat} (hr : Row w 3 1 A2 c2 l.length (nums l)) (hb : ∀ g, A2.map (·.block) = some g → ¬ Foot R A g) :
    RefM (w.setCell ⟨R, 2, none⟩ (.slice A2 l.length c2)) R { M with ready := l } (upA A 2 A2) (upC c 2 c2) := by
  have h1 := Mem.swap h (.inl rfl) (L2 := nums l) hr hb
  have e1 : upL (rowsOf M A c) 2 (nums l) = rowsOf { M with ready := l } (upA A 2 A2) (upC c 2 c2) := by
    rw [← rows_4 { M with ready := l } A (upA A 2 A2) c (upC c 2 c2) (fun j hj => (upA_ne A A2 (by omega)).symm) (fun j hj => (upC_ne c c2 (by omega)).symm)]
    funext j
    match j with
    | 0 | 1 | 2 | 3 | 4 | 5 => rfl
    | i + 6 => exact upL_ne _ _ (by omega)
  have e2 : upC (lensOf M) 2 l.length = lensOf { M with ready := l } := by
    funext j
    match j with
    | 0 | 1 | 2 | 3 | 4 | 5 => rfl
    | i + 6 => exact upC_ne _ _ (by omega)
  rw [e1, e2] at h1
  exact h1
theorem RefM.wts2 (h : RefM w R M A c) {A2 : Option Addr} {c2 : Nat} {l : List Wt} (hr : Row w 83 4 A2 c2 l.length (l.map wcells).flatten) (hb : ∀ g, A2.map (·.block) = some g → ¬ Foot R A g) :
    RefM (w.setCell ⟨R, 3, none⟩ (.slice A2 l.length c2)) R { M with wts := l } (upA A 3 A2) (upC c 3 c2) := by
  have h1 := Mem.swap h (.inr rfl) (L2 := (l.map wcells).flatten) hr hb
  have e1 : upL (rowsOf M A c) 3 (l.map wcells).flatten = rowsOf { M with wts := l } (upA A 3 A2) (upC c 3 c2) := by
    rw [← rows_4 { M with wts := l } A (upA A 3 A2) c (upC c 3 c2) (fun j hj => (upA_ne A A2 (by omega)).symm) (fun j hj => (upC_ne c c2 (by omega)).symm)]
    funext j
    match j with
    | 0 | 1 | 2 | 3 | 4 | 5 => rfl
    | i + 6 => exact upL_ne _ _ (by omega)
  have e2 : upC (lensOf M) 3 l.length = lensOf { M with wts := l } := by
    funext j
    match j with
    | 0 | 1 | 2 | 3 | 4 | 5 => rfl
    | i + 6 => exact upC_ne _ _ (by omega)
  rw [e1, e2] at h1
  exact h1
theorem wpList_rready2 {ops : Array Oper} {rest : List Oper} {o : Oper} {a : Act} {Q : Exit → Act → World → Prop} (hg : o.guard = none) (ty : TypeId) (x y : Operand) (hop : o.op = .store ty x y)
    (H : Hid (RefM w R M A c)) (HF : Hid (FrS R A0 w0 A w)) {A2 : Option Addr} {c2 : Nat} {L : List Nat} {n : Nat} (hn : n = L.length) (hr : Hid (Row w 3 1 A2 c2 L.length (nums L))) (hb : Hid (∀ g, A2.map (·.block) = some g → ¬ Foot R A g ∧ w0.heap.size ≤ g))
    (hx : a.eval x = .pointer (some ⟨R, 2, none⟩)) (hy : a.eval y = .slice A2 n c2) (hi : (Try.prog.info? ty).map (·.size) = some 1)
    (h : ∀ w2, Hid (RefM w2 R { M with ready := L } (upA A 2 A2) (upC c 2 c2)) → Hid (FrS R A0 w0 (upA A 2 A2) w2) → Hid (w.grownBy w2 (some R)) → wpList Try.prog ops Q rest (a.put o.dst undef) w2) : wpList Try.prog ops Q (o :: rest) a w := by
  subst hn
  have hblk := Mem.blk H.out
  refine wpList_store1 hg ty x y hop R 2 (.slice A2 L.length c2) _ hx hy (hblk.cell (j := 2) rfl) (hblk.free 2) hi rfl fun w2 hw2 => ?_
  rw [hw2.out]
  exact h _ (Lib.hid (H.out.ready2 hr.out fun g hg => (hb.out g hg).1)) (Lib.hid (HF.out.swap (.inl rfl) (.inl rfl) fun g hg => (hb.out g hg).2)) (Lib.hid (grown_setCell _ _ _))
theorem wpList_rwts2 {ops : Array Oper} {rest : List Oper} {o : Oper} {a : Act} {Q : Exit → Act → World → Prop} (hg : o.guard = none) (ty : TypeId) (x y : Operand) (hop : o.op = .store ty x y)
    (H : Hid (RefM w R M A c)) (HF : Hid (FrS R A0 w0 A w)) {A2 : Option Addr} {c2 : Nat} {L : List Wt} {n : Nat} (hn : n = L.length) (hr : Hid (Row w 83 4 A2 c2 L.length (L.map wcells).flatten)) (hb : Hid (∀ g, A2.map (·.block) = some g → ¬ Foot R A g ∧ w0.heap.size ≤ g))
    (hx : a.eval x = .pointer (some ⟨R, 3, none⟩)) (hy : a.eval y = .slice A2 n c2) (hi : (Try.prog.info? ty).map (·.size) = some 1)
    (h : ∀ w2, Hid (RefM w2 R { M with wts := L } (upA A 3 A2) (upC c 3 c2)) → Hid (FrS R A0 w0 (upA A 3 A2) w2) → Hid (w.grownBy w2 (some R)) → wpList Try.prog ops Q rest (a.put o.dst undef) w2) : wpList Try.prog ops Q (o :: rest) a w := by
  subst hn
  have hblk := Mem.blk H.out
  refine wpList_store1 hg ty x y hop R 3 (.slice A2 L.length c2) _ hx hy (hblk.cell (j := 3) rfl) (hblk.free 3) hi rfl fun w2 hw2 => ?_
  rw [hw2.out]
  exact h _ (Lib.hid (H.out.wts2 hr.out fun g hg => (hb.out g hg).1)) (Lib.hid (HF.out.swap (.inr rfl) (.inl rfl) fun g hg => (hb.out g hg).2)) (Lib.hid (grown_setCell _ _ _))
end
/-- a new row of those that wait: B: no block of it is below -/
structure FrW (w : World) (B : Nat) (L : List Wt) (A : Option Addr) (c : Nat) (wr : World) : Prop where
  row : Row wr 83 4 A c L.length (L.map wcells).flatten
  below : Below w.heap.size w wr
  fresh : ∀ g, A.map (·.block) = some g → B ≤ g
  size : B ≤ wr.heap.size
theorem FrW.start (w wr : World) (B : Nat) (hb : Below w.heap.size w wr) (hB : B ≤ wr.heap.size) : FrW w B [] none 0 wr := ⟨Row.nil _ _ _, hb, fun g h => (by cases h), hB⟩
theorem FrW.box {w wr w2 : World} {B b : Nat} {L : List Wt} {A : Option Addr} {c : Nat} (h : FrW w B L A c wr) (hg : wr.grownBy w2 (some b)) (hb1 : w.heap.size ≤ b) (hb2 : b < B) : FrW w B L A c w2 :=
  ⟨h.row.kept hg (by
    cases hA : A.map (·.block) with
    | none => exact .inl rfl
    | some g => exact .inr fun e => by injection e with e; have := h.fresh g hA; omega), h.below.trans (grown_below hg h.below.size fun k e => by injection e with e; omega), h.fresh, Nat.le_trans h.size hg.size⟩
theorem FrW.app {w wr w2 : World} {B : Nat} {L : List Wt} {A A2 : Option Addr} {c c2 m : Nat} {x : Wt} (h : FrW w B L A c wr) (hwB : w.heap.size ≤ B) (hm : m = L.length) (hr : w2.ownsRow 0 83 4 (.slice A2 (m + 1) c2) (m + 1) ((L.map wcells).flatten ++ wcells x)) (hg : (wr.alloc (.cells (wcells x).toArray 83)).grownBy w2 (A.map (·.block))) (hb : A2.map (·.block) = A.map (·.block) ∨ A2.map (·.block) = some (wr.alloc (.cells (wcells x).toArray 83)).heap.size) : FrW w B (L ++ [x]) A2 c2 w2 := by
  have hba : Below wr.heap.size wr (wr.alloc (.cells (wcells x).toArray 83)) := (Below.refl _ _).alloc (Nat.le_refl _) _
  refine ⟨?_, ?_, fun g hgg => ?_, Nat.le_trans h.size (Nat.le_trans hba.size hg.size)⟩
  · rw [show (L ++ [x]).length = m + 1 by simp [hm], show ((L ++ [x]).map wcells).flatten = (L.map wcells).flatten ++ wcells x by simp]
    exact hr
  · exact (h.below.trans (hba.mono h.below.size)).trans (grown_below hg (Nat.le_trans h.below.size hba.size) fun k e => Nat.le_trans hwB (h.fresh k e))
  · rcases hb with e | e
    · exact h.fresh g (e.symm.trans hgg)
    · rw [e] at hgg; injection hgg with hgg; have := h.size; have := hba.size; omega
theorem sWt : SInfo 83 4 := ⟨by kernel_rfl, _, Try.underlying83, rfl⟩
theorem zWt : ((Try.prog.info? 83).bind (·.zero)) = some (.agg (([.int .i64 0, .int .i64 0, .int .i64 0, .int .i64 0] : List Value).toArray)) := by kernel_rfl
theorem Try.infoWt : (Try.prog.info? 83).map (fun i => (i.zero, i.size, i.bytes)) = some (some (.agg #[.int .i64 0, .int .i64 0, .int .i64 0, .int .i64 0]), 4, 32) := by kernel_rfl
theorem wcells_one (x : Wt) : ∀ v ∈ wcells x, v.oneCell' = true := by intro v hv; simp [wcells] at hv; rcases hv with rfl | rfl | rfl | rfl <;> rfl
theorem buildS_wt (w : World) (x : Wt) : (Instr.buildSlice 76 1 #[(0, .agg (wcells x).toArray)]).run Try.prog w = .ok (.slice (some ⟨w.heap.size, 0, none⟩) 1 1) (w.alloc (.cells (wcells x).toArray 83)) := by
  obtain ⟨ti, hi, hz, hs1, hb1⟩ := info_parts Try.infoWt
  refine run_buildSlice w _ _ 1 _ _ ti _ Try.underlying76 hi hz (by rw [hs1]; decide) (by rw [hs1]; decide) ?_
  rw [hs1]; kernel_rfl
theorem forget_snoc (l : List Wt) (p j : Nat) (h : j < l.length) : forgetL (l.take (j + 1)) p = forgetL (l.take j) p ++ (if l[j].p = p then [] else [l[j]]) := by
  rw [List.take_succ_eq_append_getElem h]
  unfold forgetL
  rw [List.filter_append]
  congr 1
  by_cases e : l[j].p = p <;> simp [e]
theorem forget_le (l : List Wt) (p : Nat) : (forgetL l p).length ≤ l.length := List.length_filter_le ..
end Go.Proofs.Ytgeffkdobnipgaa
/- The document's set: forget. -/
namespace Go.Proofs.Ytgeffkdobnipgaa
open Go.RowKit Nac Nac.Procs
theorem RefM.rng3 {w : World} {R : Nat} {M : RSt} {A : Nat → Option Addr} {c : Nat → Nat} (h : RefM w R M A c) {k : Nat} (hk : k < M.wts.length) : ∃ g, A 3 = some ⟨g, 0, none⟩ ∧ w.cell? ⟨g, k * 4, none⟩ = some (.int .i64 ((M.wts.getD k default).p : Int)) ∧ w.rangeAt g (k * 4) (wcells (M.wts.getD k default)) := by
  obtain ⟨g, hA, hc, _⟩ := h.at3 hk
  exact ⟨g, hA, hc 0 _ rfl, fun f v hv => hc f v hv⟩
def RetFg (w : World) (R : Nat) (A : Nat → Option Addr) (M' : RSt) (e : Ending) (w' : World) : Prop := ∃ x : Wt, e = .returned (.agg (wcells x).toArray) ∧ ∃ A' c', RefM w' R M' A' c' ∧ FrS R A w A' w'
set_option maxRecDepth 100000 in
set_option maxHeartbeats 1000000 in
theorem forget_calls (w : World) (R : Nat) (M : RSt) (A : Nat → Option Addr) (c : Nat → Nat) (h : RefM w R M A c) (b : Nat) (hI : RInv M b) (hb : b ≤ 100) (p : Nat) :
    Calls Try.prog 49 #[.pointer (some ⟨R, 0, none⟩), .int .i64 (p : Int)] w (RetFg w R A { M with wts := forgetL M.wts p }) := by
  obtain ⟨n3, hn3⟩ : ∃ n, n = M.wts.length := ⟨_, rfl⟩
  have hn38 : n3 ≤ 100 := by have := hI.wl; omega
  have H := Lib.hid h
  have HN3 := Lib.hid hn3
  clear h hI hn3 hb
  go_enter Try.func49, Try.ntmps49
  go_wp2_with ((with_reducible show wpList _ _ _ (Oper.mk _ (Op.alloc 83) _ _ _ _ :: _) _ _); refine wpList_allocS _ zWt rfl rfl ?_)
  intro w1 hb1 hg1 hs1
  obtain ⟨b4, hb4⟩ : ∃ b, b = w.heap.size := ⟨_, rfl⟩
  rw [← hb4] at hb1 hs1 ⊢
  have HB1 := Lib.hid hb1
  have HW1 : Hid (Below w.heap.size w w1) := Lib.hid (grown_below hg1 (Nat.le_refl _) fun k e => by cases e)
  have HS1 := Lib.hid hs1
  have HE4 := Lib.hid hb4
  clear hb1 hg1 hs1 hb4
  go_wp2_with ((with_reducible show wpList _ _ _ (Oper.mk _ (Op.alloc 83) _ _ _ _ :: _) _ _); refine wpList_allocS _ zWt rfl rfl ?_)
  intro w2 hb2 hg2 hs2
  obtain ⟨b5, hb5⟩ : ∃ b, b = w1.heap.size := ⟨_, rfl⟩
  rw [← hb5] at hb2 hs2 ⊢
  have HB2 := Lib.hid hb2
  have HB42 : Hid (Blk w2 b4 [.int .i64 0, .int .i64 0, .int .i64 0, .int .i64 0]) := Lib.hid (HB1.out.grown hg2 (by simp))
  have HW2 : Hid (Below w.heap.size w w2) := Lib.hid (HW1.out.trans (grown_below hg2 HW1.out.size fun k e => by cases e))
  have HS2 := Lib.hid hs2
  have HE5 : Hid (b5 = b4 + 1) := Lib.hid (by rw [hb5, HS1.out])
  clear hb2 hg2 hs2 hb5 HB1 HW1
  go_wp2_with ((with_reducible show wpList _ _ _ (Oper.mk _ (Op.store 83 _ _) _ _ _ _ :: _) _ _); refine wpList_storeS sWt rfl _ _ rfl b5 [.int .i64 0, .int .i64 0, .int .i64 0, .int .i64 0] (wcells ⟨0, 0, 0, 0⟩) rfl rfl HB2.out rfl rfl (wcells_one _) ?_)
  intro w3 hb3 hg3
  have HB3 := Lib.hid hb3
  have HB43 : Hid (Blk w3 b4 [.int .i64 0, .int .i64 0, .int .i64 0, .int .i64 0]) := Lib.hid (HB42.out.grown hg3 (by intro e; injection e with e; have := HE5.out; omega))
  have HW3 : Hid (Below w.heap.size w w3) := Lib.hid (HW2.out.trans (grown_below hg3 HW2.out.size fun k e => by injection e with e; have := HE5.out; have := HE4.out; omega))
  have HFW0 : Hid (FrW w (b5 + 1) (forgetL (M.wts.take 0) p) none 0 w3) := Lib.hid (FrW.start w w3 _ HW3.out (by have := HS2.out; have := hg3.size; omega))
  clear hb3 hg3 HB2 HB42 HW2 HW3
  go_wp2
  go_loopw [6, 7] (fun s6 s7 wr => ∃ (k m : Nat) (x : Wt) (A' : Option Addr) (c' : Nat), k ≤ n3 ∧ s7 = .int .i64 (k : Int) ∧ s6 = .slice A' m c' ∧ Hid (m = (forgetL (M.wts.take k) p).length) ∧ m ≤ k ∧ FrW w (b5 + 1) (forgetL (M.wts.take k) p) A' c' wr ∧ Blk wr b5 (wcells x) ∧ Blk wr b4 [.int .i64 0, .int .i64 0, .int .i64 0, .int .i64 0]) (fun _ s7 _ => n3 - (intOf s7).toNat)
  case atStart => exact ⟨0, 0, _, none, 0, Nat.zero_le _, rfl, rfl, Lib.hid rfl, Nat.le_refl _, HFW0.out, HB3.out, HB43.out⟩
  case round =>
    obtain ⟨k, m, x, A', c', hk, rfl, rfl, HM, hmk, hfw, hbx, hb4⟩ := hrel
    have HF := Lib.hid hfw
    have HBX := Lib.hid hbx
    have HB4 := Lib.hid hb4
    have HR : Hid (RefM wr R M A c) := Lib.hid (H.out.below hfw.below)
    clear HFW0 HB3 HB43 hfw hbx hb4
    by_cases hlt : k < n3
    · have hkl : k < M.wts.length := by rw [← HN3.out]; exact hlt
      obtain ⟨g3, hA3, hc0, hrg⟩ := HR.out.rng3 hkl
      have c3 : wr.cell? ⟨R, 3, none⟩ = some (.slice (some ⟨g3, 0, none⟩) n3 (c 3)) := by rw [HN3.out, ← hA3]; exact Mem.head HR.out (by decide)
      obtain ⟨y, hy⟩ : ∃ y, y = M.wts.getD k default := ⟨_, rfl⟩
      rw [← hy] at hc0 hrg
      have hsn := forget_snoc M.wts p k hkl
      rw [show M.wts[k] = y by rw [hy]; simp [List.getD, hkl]] at hsn
      have HSN := Lib.hid hsn
      have HRG := Lib.hid hrg
      obtain ⟨yp, hyp⟩ : ∃ yp, yp = y.p := ⟨_, rfl⟩
      rw [← hyp] at hc0
      have HYP := Lib.hid hyp
      clear hkl hA3 hrg hy hsn hyp
      by_cases he : yp = p
      · have hb1 : ((yp : Int) == (p : Int)) = true := by simp [he]
        have HFK : Hid (FrW w (b5 + 1) (forgetL (M.wts.take (k + 1)) p) A' c' wr ∧ m = (forgetL (M.wts.take (k + 1)) p).length) := Lib.hid (by rw [HSN.out, if_pos (by rw [← HYP.out]; exact he), List.append_nil]; exact ⟨HF.out, HM.out⟩)
        clear he HF HM HSN
        go_wp2_with (first | ((with_reducible show wpList _ _ _ (Oper.mk _ (Op.load 83 _) _ _ _ _ :: _) _ _); refine wpList_load_mid rfl 83 _ rfl g3 (k * 4) rfl (wcells y) _ HRG.out Try.underlying83 rfl sWt.info ?_) | ((with_reducible show wpList _ _ _ (Oper.mk _ (Op.store 83 _ _) _ _ _ _ :: _) _ _); refine wpList_storeS sWt rfl _ _ rfl b5 (wcells x) (wcells y) rfl rfl HBX.out rfl rfl (wcells_one _) ?_))
        intro w5 hb5 hg5
        have HF5 : Hid (FrW w (b5 + 1) (forgetL (M.wts.take (k + 1)) p) A' c' w5) := Lib.hid (HFK.out.1.box hg5 (by have := HE5.out; have := HE4.out; omega) (by omega))
        have HB5 := Lib.hid hb5
        have HB45 : Hid (Blk w5 b4 [.int .i64 0, .int .i64 0, .int .i64 0, .int .i64 0]) := Lib.hid (HB4.out.grown hg5 (by intro e; injection e with e; have := HE5.out; omega))
        clear hb5 hg5 c3 hc0 HR HBX HB4 HRG
        go_wp2
        go_roundw
        case rel => exact ⟨k + 1, m, y, A', c', by omega, by go_num, rfl, Lib.hid HFK.out.2, by omega, HF5.out, HB5.out, HB45.out⟩
        case measure => simp [intOf]; omega
      · have hb1 : ((yp : Int) == (p : Int)) = false := by simp; omega
        have HNE : Hid (y.p ≠ p) := Lib.hid (by rw [← HYP.out]; exact he)
        obtain ⟨y0, yr, yl, yi⟩ := y
        have HR0 : Hid ((wr.alloc (.cells #[.int .i64 (y0 : Int), .int .i64 yr, .int .i64 yl, .int .i64 yi] 83)).ownsRow 0 83 4 (.slice A' m c') m ((forgetL (M.wts.take k) p).map wcells).flatten) := Lib.hid (by rw [HM.out]; exact HF.out.row.below ((Below.refl _ _).alloc (Nat.le_refl _) _))
        have HSRC : Hid (Src (wr.alloc (.cells #[.int .i64 (y0 : Int), .int .i64 yr, .int .i64 yl, .int .i64 yi] 83)) (some ⟨wr.heap.size, 0, none⟩) (wcells ⟨y0, yr, yl, yi⟩)) := Lib.hid fun _ => ⟨_, rfl, fun j u hu => by
          rw [Addr.add_mid, Nat.zero_add]
          exact (Blk.new wr (wcells ⟨y0, yr, yl, yi⟩) 83).cell hu⟩
        have hbs : ∀ w, (Instr.buildSlice 76 1 #[(0, .agg #[.int .i64 (y0 : Int), .int .i64 yr, .int .i64 yl, .int .i64 yi])]).run Try.prog w = .ok (.slice (some ⟨w.heap.size, 0, none⟩) 1 1) (w.alloc (.cells #[.int .i64 (y0 : Int), .int .i64 yr, .int .i64 yl, .int .i64 yi] 83)) := fun w => buildS_wt w ⟨y0, yr, yl, yi⟩
        have HRG' : Hid (wr.rangeAt g3 (k * 4) [.int .i64 (y0 : Int), .int .i64 yr, .int .i64 yl, .int .i64 yi]) := Lib.hid HRG.out
        obtain ⟨XS, hXS⟩ : ∃ XS, XS = ((forgetL (M.wts.take k) p).map wcells).flatten := ⟨_, rfl⟩
        rw [← hXS] at HR0
        have HXS := Lib.hid hXS
        clear he hXS HRG HYP
        go_wp2_with (first | ((with_reducible show wpList _ _ _ (Oper.mk _ (Op.load 83 _) _ _ _ _ :: _) _ _); refine wpList_load_mid rfl 83 _ rfl g3 (k * 4) rfl [.int .i64 (y0 : Int), .int .i64 yr, .int .i64 yl, .int .i64 yi] _ HRG'.out Try.underlying83 rfl sWt.info ?_) | (at_builtin; refine wpList_app _ rfl _ _ 76 rfl 0 83 _ 4 32 Try.underlying76 Try.infoWt rfl (by decide) A' m c' XS rfl HR0.out (some ⟨wr.heap.size, 0, none⟩) 1 1 (wcells ⟨y0, yr, yl, yi⟩) rfl rfl HSRC.out (wcells_one _) (by omega) (by unfold maxLen; omega) (Nat.zero_le _) ?_))
        intro A2 c2 w5 hr5 hg5 hb5
        have hb5' : A2.map (·.block) = A'.map (·.block) ∨ A2.map (·.block) = some (wr.alloc (.cells (wcells ⟨y0, yr, yl, yi⟩).toArray 83)).heap.size := by
          rcases hb5 with e | e
          · exact .inl e
          · first
              | exact .inr e
              | (obtain ⟨a, rfl, ha⟩ := e; right; rw [Option.map_some, ha]; simp)
        have HF5 : Hid (FrW w (b5 + 1) (forgetL (M.wts.take (k + 1)) p) A2 c2 w5) := Lib.hid (by
          rw [HSN.out, if_neg HNE.out]
          rw [HXS.out] at hr5
          exact HF.out.app (by have := HE5.out; have := HE4.out; omega) HM.out hr5 hg5 hb5')
        have HM5 : Hid (m + 1 = (forgetL (M.wts.take (k + 1)) p).length) := Lib.hid (by rw [HSN.out, if_neg HNE.out]; simp [HM.out])
        have hgw : wr.grownBy w5 (A'.map (·.block)) := ⟨hg5.os, hg5.tape, hg5.output, Nat.le_trans (by simp) hg5.size, fun k hk hne => (hg5.block k (by simp; omega) hne).trans (((Below.refl wr.heap.size wr).alloc (Nat.le_refl _) _).block k hk)⟩
        have hnb : ∀ b, b < b5 + 1 → A'.map (·.block) ≠ some b := fun b hb e => by have := HF.out.fresh b e; omega
        have HB5 : Hid (Blk w5 b5 (wcells x)) := Lib.hid (HBX.out.grown hgw (hnb b5 (by omega)))
        have HB45 : Hid (Blk w5 b4 [.int .i64 0, .int .i64 0, .int .i64 0, .int .i64 0]) := Lib.hid (HB4.out.grown hgw (hnb b4 (by have := HE5.out; omega)))
        clear hr5 hg5 hb5 hb5' hgw hnb hbs c3 hc0 HR HBX HB4 HR0 HSRC HF HM HSN HXS HRG'
        go_wp2
        go_roundw
        case rel => exact ⟨k + 1, m + 1, x, A2, c2, by omega, by go_num, rfl, HM5, by omega, HF5.out, HB5.out, HB45.out⟩
        case measure => simp [intOf]; omega
    · have hkn : k = n3 := by omega
      have HFE : Hid (FrW w (b5 + 1) (forgetL M.wts p) A' c' wr ∧ m = (forgetL M.wts p).length) := Lib.hid (by have h1 := HF.out; have h2 := HM.out; rw [hkn, HN3.out, List.take_length] at h1 h2; exact ⟨h1, h2⟩)
      have c3 : wr.cell? ⟨R, 3, none⟩ = some (.slice (A 3) n3 (c 3)) := by rw [HN3.out]; exact Mem.head HR.out (by decide)
      have HNF : Hid (∀ g, A'.map (·.block) = some g → ¬ Foot R A g ∧ w.heap.size ≤ g) := Lib.hid fun g hg => by
        have h1 := HF.out.fresh g hg
        have h2 := HE5.out
        have h3 := HE4.out
        exact ⟨Mem.notFoot H.out (by omega), by omega⟩
      have HF0 : Hid (FrS R A w A wr) := Lib.hid (FrS.below HF.out.below)
      have HROW : Hid (Row wr 83 4 A' c' (forgetL M.wts p).length ((forgetL M.wts p).map wcells).flatten) := Lib.hid HFE.out.1.row
      have HME := Lib.hid HFE.out.2
      have HNF4 : Hid (¬ Foot R (upA A 3 A') b4 ∧ ¬ Foot R (upA A 3 A') b5) := Lib.hid (by
        have h4 : ¬ Foot R A b4 := Mem.notFoot H.out (by have := HE4.out; omega)
        have h5 : ¬ Foot R A b5 := Mem.notFoot H.out (by have := HE4.out; have := HE5.out; omega)
        have hn : ∀ b, b < b5 + 1 → ¬ Foot R A b → ¬ Foot R (upA A 3 A') b := fun b hb h0 => by
          rintro (rfl | ⟨i, hi⟩)
          · exact h0 (.inl rfl)
          · by_cases e : i = 3
            · rw [e, upA_same] at hi; have := HF.out.fresh b hi; omega
            · rw [upA_ne _ _ e] at hi; exact h0 (.inr ⟨i, hi⟩)
        exact ⟨hn b4 (by have := HE5.out; omega) h4, hn b5 (by omega) h5⟩)
      subst hkn
      clear HF HM HFE
      go_wp2_with ((with_reducible show wpList _ _ _ (Oper.mk _ (Op.store _ _ _) _ _ _ _ :: _) _ _); refine wpList_rwts2 rfl 76 _ _ rfl HR HF0 HME.out HROW HNF rfl rfl s1Wts ?_)
      intro w6 H6 HF6 HG6
      have HB46 : Hid (Blk w6 b4 [.int .i64 0, .int .i64 0, .int .i64 0, .int .i64 0]) := Lib.hid (HB4.out.grown HG6.out (fun e => by injection e with e; exact HNF4.out.1 (.inl e.symm)))
      have HB56 : Hid (Blk w6 b5 (wcells x)) := Lib.hid (HBX.out.grown HG6.out (fun e => by injection e with e; exact HNF4.out.2 (.inl e.symm)))
      clear HR HF0 HROW HNF HBX HB4 HG6 HME c3
      go_wp2_with (first | ((with_reducible show wpList _ _ _ (Oper.mk _ (Op.load 83 _) _ _ _ _ :: _) _ _); refine wpList_loadS sWt rfl _ rfl b5 (wcells x) rfl HB56.out rfl ?_) | ((with_reducible show wpList _ _ _ (Oper.mk _ (Op.store 83 _ _) _ _ _ _ :: _) _ _); refine wpList_storeS sWt rfl _ _ rfl b4 [.int .i64 0, .int .i64 0, .int .i64 0, .int .i64 0] (wcells x) rfl rfl HB46.out rfl rfl (wcells_one _) ?_))
      intro w7 hb7 hg7
      have l7 := Lib.hid (run_loadS sWt b4 _ hb7 rfl)
      have HRES : Hid (RetFg w R A { M with wts := forgetL M.wts p } (.returned (.agg (wcells x).toArray)) w7) := Lib.hid ⟨x, rfl, _, _, Mem.apart H6.out hg7 (fun b e => by injection e with e; rw [← e]; exact HNF4.out.1), HF6.out.bump hg7 (by have := HE4.out; omega)⟩
      clear hb7 hg7
      go_wp2
      exact bodyPost_ret (v := .agg (wcells x).toArray) (by simp [results, Try.results49, asAddr, Sem.run_bind, Sem.run_pure, l7.out]) rfl HRES.out
end Go.Proofs.Ytgeffkdobnipgaa
/- The document's set: a last outcome; wakes. -/
namespace Go.Proofs.Ytgeffkdobnipgaa
open Go.RowKit Nac Nac.Procs
section
variable {w0 w w' : World} {R : Nat} {M : RSt} {A0 A : Nat → Option Addr} {c : Nat → Nat}
theorem flat_outs (l : List Out) (p : Nat) (hp : p < l.length) (o : Out) : (((l.map ocs).flatten.set (p * 3) (.int .i64 o.code)).set (p * 3 + 1) (.int .i64 o.value)).set (p * 3 + 2) (.bool o.waits) = ((l.set p o).map ocs).flatten := by
  have h0 : p < (l.map ocs).length := by simpa using hp
  have e0 := flat_set (ocs_len l) h0 (f := 0) (by decide) (.int .i64 o.code)
  have l1 : ∀ x ∈ (l.map ocs).set p ((l.map ocs)[p].set 0 (.int .i64 o.code)), x.length = 3 := fun x hx => by
    rcases List.mem_or_eq_of_mem_set hx with h | h
    · exact ocs_len l x h
    · rw [h, List.length_set]; exact ocs_len l _ (List.getElem_mem h0)
  have h1 : p < ((l.map ocs).set p ((l.map ocs)[p].set 0 (.int .i64 o.code))).length := by simpa using hp
  have e1 := flat_set l1 h1 (f := 1) (by decide) (.int .i64 o.value)
  rw [List.getElem_set_self, List.set_set] at e1
  have l2 : ∀ x ∈ (l.map ocs).set p (((l.map ocs)[p].set 0 (.int .i64 o.code)).set 1 (.int .i64 o.value)), x.length = 3 := fun x hx => by
    rcases List.mem_or_eq_of_mem_set hx with h | h
    · exact ocs_len l x h
    · rw [h, List.length_set, List.length_set]; exact ocs_len l _ (List.getElem_mem h0)
  have h2 : p < ((l.map ocs).set p (((l.map ocs)[p].set 0 (.int .i64 o.code)).set 1 (.int .i64 o.value))).length := by simpa using hp
  have e2 := flat_set l2 h2 (f := 2) (by decide) (.bool o.waits)
  rw [List.getElem_set_self, List.set_set] at e2
  rw [show p * 3 = p * 3 + 0 from rfl, e0, e1, e2, List.map_set, List.getElem_map]
  rfl
theorem RefM.last (h : RefM w R M A c) {p : Nat} (hp : p < M.lasts.length) {g : Nat} (hA : A 5 = some ⟨g, 0, none⟩) (o : Out) :
    RefM (w.setCells g (p * 3) [.int .i64 o.code, .int .i64 o.value, .bool o.waits]) R { M with lasts := M.lasts.set p o } A c ∧ FrS R A w A (w.setCells g (p * 3) [.int .i64 o.code, .int .i64 o.value, .bool o.waits]) := by
  obtain ⟨h1, f1⟩ := Mem.setC h (j := 5) (by decide) hA (p * 3) (.int .i64 o.code)
  obtain ⟨h2, f2⟩ := h1.setC (j := 5) (by decide) hA (p * 3 + 1) (.int .i64 o.value)
  obtain ⟨h3, f3⟩ := h2.setC (j := 5) (by decide) hA (p * 3 + 2) (.bool o.waits)
  refine ⟨?_, (f1.trans f2).trans f3⟩
  have hl : (M.lasts.set p o).length = M.lasts.length := List.length_set ..
  have e1 : upL (upL (upL (rowsOf M A c) 5 ((rowsOf M A c 5).set (p * 3) (.int .i64 o.code))) 5 ((upL (rowsOf M A c) 5 ((rowsOf M A c 5).set (p * 3) (.int .i64 o.code)) 5).set (p * 3 + 1) (.int .i64 o.value))) 5 ((upL (upL (rowsOf M A c) 5 ((rowsOf M A c 5).set (p * 3) (.int .i64 o.code))) 5 ((upL (rowsOf M A c) 5 ((rowsOf M A c 5).set (p * 3) (.int .i64 o.code)) 5).set (p * 3 + 1) (.int .i64 o.value)) 5).set (p * 3 + 2) (.bool o.waits)) = rowsOf { M with lasts := M.lasts.set p o } A c := by
    funext j
    match j with
    | 5 =>
      rw [upL_same, upL_same, upL_same]
      exact flat_outs M.lasts p hp o
    | 0 | 1 | 2 | 3 | 4 => rfl
    | i + 6 => rw [upL_ne _ _ (by omega), upL_ne _ _ (by omega), upL_ne _ _ (by omega)]; rfl
  have e2 : lensOf M = lensOf { M with lasts := M.lasts.set p o } := by
    funext j
    match j with
    | 5 => exact hl.symm
    | 0 | 1 | 2 | 3 | 4 => rfl
    | i + 6 => rfl
  rw [e1, e2] at h3
  exact h3
theorem RefM.at5 (h : RefM w R M A c) {p : Nat} (hp : p < M.lasts.length) : ∃ g, A 5 = some ⟨g, 0, none⟩ ∧ w.there g (p * 3) 3 := by
  have hr : Row w 37 3 (A 5) (c 5) M.lasts.length (M.lasts.map ocs).flatten := Mem.row h 5
  have hpl : p < (M.lasts.map ocs).length := by simpa using hp
  obtain ⟨hj0, _⟩ := flat_get (ocs_len M.lasts) (p := p) (f := 0) hpl (by decide)
  obtain ⟨g, hA, _, _, hf⟩ := hr.at hj0
  refine ⟨g, hA, fun f hf3 => ⟨?_, hf _⟩⟩
  obtain ⟨hj, _⟩ := flat_get (ocs_len M.lasts) (p := p) (f := f) hpl hf3
  obtain ⟨g', hA', _, hc, _⟩ := hr.at hj
  rw [hA] at hA'
  injection hA' with e
  injection e with e
  subst e
  rw [hc]; rfl
theorem wpList_rlast {ops : Array Oper} {rest : List Oper} {o : Oper} {a : Act} {Q : Exit → Act → World → Prop} (hg : o.guard = none) (x y : Operand) (hop : o.op = .store 37 x y)
    (H : Hid (RefM w R M A c)) (HF : Hid (FrS R A0 w0 A w)) {p g : Nat} (u : Out) (hp : p < M.lasts.length) (hA : Hid (A 5 = some ⟨g, 0, none⟩))
    (hx : a.eval x = .pointer (some ⟨g, p * 3, none⟩)) (hy : a.eval y = .agg #[.int .i64 u.code, .int .i64 u.value, .bool u.waits])
    (h : ∀ w', Hid (RefM w' R { M with lasts := M.lasts.set p u } A c) → Hid (FrS R A0 w0 A w') → Hid (w.grownBy w' (some g)) → wpList Try.prog ops Q rest (a.put o.dst undef) w') : wpList Try.prog ops Q (o :: rest) a w := by
  obtain ⟨g', hA', ht⟩ := H.out.at5 hp
  rw [hA.out] at hA'
  injection hA' with e
  injection e with e
  subst e
  have hl := H.out.last hp hA.out u
  refine wpList_store_mid hg 37 x y hop g (p * 3) #[.int .i64 u.code, .int .i64 u.value, .bool u.waits] hx hy ht s3Out (by simp [Value.oneCell']) ?_
  exact h _ (Lib.hid hl.1) (Lib.hid (HF.out.trans hl.2)) (Lib.hid (grown_setCells g _ _ _))
end
def RetRef (w : World) (R : Nat) (A : Nat → Option Addr) (M' : RSt) (w' : World) : Prop := ∃ A' c', RefM w' R M' A' c' ∧ FrS R A w A' w'
def RetWk (w : World) (R : Nat) (A : Nat → Option Addr) (M' : RSt) (e : Ending) (w' : World) : Prop := ∃ z : Int, e = .returned (.int .i64 z) ∧ RetRef w R A M' w'
set_option maxRecDepth 100000 in
set_option maxHeartbeats 1000000 in
theorem wakes_calls (w : World) (R : Nat) (M : RSt) (A : Nat → Option Addr) (c : Nat → Nat) (h : RefM w R M A c) (b : Nat) (hI : RInv M b) (hb : b ≤ 100) (p : Nat) (hp : p < M.prs.length) (oc ov : Int) (ow : Bool) :
    Calls Try.prog 55 #[.pointer (some ⟨R, 0, none⟩), .int .i64 (p : Int), .agg #[.int .i64 oc, .int .i64 ov, .bool ow]] w (RetWk w R A (wakesM M p ⟨oc, ov, ow⟩)) := by
  have H := Lib.hid h
  have HI := Lib.hid hI
  have HP := Lib.hid hp
  have HBB := Lib.hid hb
  clear h hI hb hp
  go_enter Try.func55, Try.ntmps55
  go_wp2_with ((with_reducible show wpList _ _ _ (Oper.mk _ (Op.box 37 _) _ _ _ _ :: _) _ _); refine wpList_boxS (T := 37) rfl _ rfl [.int .i64 oc, .int .i64 ov, .bool ow] rfl ?_)
  intro w1 hb1 hg1 hs1
  obtain ⟨bo, hbo⟩ : ∃ b, b = w.heap.size := ⟨_, rfl⟩
  rw [← hbo] at hb1 ⊢
  have HB1 := Lib.hid hb1
  have H1 : Hid (RefM w1 R M A c) := Lib.hid (Mem.apart H.out hg1 fun k e => by cases e)
  have HF1 : Hid (FrS R A w A w1) := Lib.hid (FrS.grown hg1 fun k e => by cases e)
  have HNF1 : Hid (¬ Foot R A bo) := Lib.hid (Mem.notFoot H.out (by omega))
  have HS1 : Hid (w1.heap.size = bo + 1) := Lib.hid (by omega)
  have HEB := Lib.hid hbo
  clear hb1 hg1 hs1 hbo H
  go_wp2_with fail
  refine (forget_calls w1 R M A c H1.out b HI.out HBB.out p).mono ?_
  rintro e w2 ⟨x, rfl, A2, c2, h2, hf2⟩
  have H2 := Lib.hid h2
  have HF2 := Lib.hid (HF1.out.trans hf2)
  have HB2 : Hid (Blk w2 bo [.int .i64 oc, .int .i64 ov, .bool ow]) := Lib.hid (hf2.blk HB1.out HNF1.out)
  have HNF2 : Hid (¬ Foot R A2 bo) := Lib.hid (hf2.nf HNF1.out (by have := HS1.out; omega))
  clear h2 hf2 H1 HF1 HB1 HNF1
  go_wp2_with ((with_reducible show wpList _ _ _ (Oper.mk _ (Op.alloc 83) _ _ _ _ :: _) _ _); refine wpList_allocS _ zWt rfl rfl ?_)
  intro w3 hb3 hg3 hs3
  obtain ⟨b7, hb7⟩ : ∃ b, b = w2.heap.size := ⟨_, rfl⟩
  rw [← hb7] at hb3 ⊢
  have HB3 := Lib.hid hb3
  have H3 : Hid (RefM w3 R _ A2 c2) := Lib.hid (Mem.apart H2.out hg3 fun k e => by cases e)
  have HF3 : Hid (FrS R A w A2 w3) := Lib.hid (HF2.out.trans (FrS.grown hg3 fun k e => by cases e))
  have HBO3 : Hid (Blk w3 bo [.int .i64 oc, .int .i64 ov, .bool ow]) := Lib.hid (HB2.out.grown hg3 (by simp))
  have HNF3 : Hid (¬ Foot R A2 b7) := Lib.hid (Mem.notFoot H2.out (by omega))
  have HNE : Hid (bo < b7) := Lib.hid (by rw [hb7]; exact HB2.out.lt)
  have HW7 : Hid (w.heap.size ≤ b7) := Lib.hid (by have := HNE.out; have := HEB.out; omega)
  clear hb3 hg3 hs3 hb7 H2 HF2 HB2
  go_wp2_with ((with_reducible show wpList _ _ _ (Oper.mk _ (Op.store 83 _ _) _ _ _ _ :: _) _ _); refine wpList_storeS sWt rfl _ _ rfl b7 [.int .i64 0, .int .i64 0, .int .i64 0, .int .i64 0] (wcells x) rfl rfl HB3.out rfl rfl (wcells_one _) ?_)
  intro w4 hb4 hg4
  obtain ⟨M2, hM2⟩ : ∃ X, X = ({ M with wts := forgetL M.wts p } : RSt) := ⟨_, rfl⟩
  obtain ⟨A4, hA4⟩ : ∃ X, X = A2 := ⟨_, rfl⟩
  obtain ⟨c4, hc4⟩ : ∃ X, X = c2 := ⟨_, rfl⟩
  have HB4 := Lib.hid hb4
  have H4 : Hid (RefM w4 R M2 A4 c4) := Lib.hid (by rw [hM2, hA4, hc4]; exact Mem.apart H3.out hg4 fun k e => by injection e with e; rw [← e]; exact HNF3.out)
  have HF4 : Hid (FrS R A w A4 w4) := Lib.hid (by rw [hA4]; exact HF3.out.bump hg4 HW7.out)
  have HBO4 : Hid (Blk w4 bo [.int .i64 oc, .int .i64 ov, .bool ow]) := Lib.hid (HBO3.out.grown hg4 (by intro e; injection e with e; have := HNE.out; omega))
  have HNF4 : Hid (¬ Foot R A4 b7) := Lib.hid (by rw [hA4]; exact HNF3.out)
  have hpl : p < M2.lasts.length := by rw [hM2]; show p < M.lasts.length; rw [HI.out.nl]; exact HP.out
  obtain ⟨g5, hA5, _⟩ := H4.out.at5 hpl
  obtain ⟨n5, hn5⟩ : ∃ n, n = M2.lasts.length := ⟨_, rfl⟩
  have hp5 : p < n5 := by rw [hn5]; exact hpl
  have hn58 : n5 ≤ 8 := by rw [hn5, hM2]; show M.lasts.length ≤ 8; rw [HI.out.nl]; exact HI.out.n8
  have C5 : Hid (∀ w', Below w4.drew.heap.size w4.drew w' → w'.cell? ⟨R, 5, none⟩ = some (.slice (some ⟨g5, 0, none⟩) n5 (c4 5))) := Lib.hid fun w' hb' => by rw [hn5, ← hA5]; exact Mem.head (Mem.below (w := w4.drew) ⟨H4.out.blk, H4.out.row, H4.out.l4, H4.out.ap, H4.out.aps⟩ hb') (by decide)
  have BX : Hid (∀ w', Below w4.drew.heap.size w4.drew w' → w'.cell? ⟨bo, 0, none⟩ = some (.int .i64 oc) ∧ w'.cell? ⟨bo, 1, none⟩ = some (.int .i64 ov) ∧ w'.cell? ⟨bo, 2, none⟩ = some (.bool ow)) := Lib.hid fun w' hb' => by
    have := HBO4.out.drew.below hb' HBO4.out.lt
    exact ⟨this.cell rfl, this.cell rfl, this.cell rfl⟩
  have HPL := Lib.hid hpl
  have HA5 := Lib.hid hA5
  have HM2 := Lib.hid hM2
  clear hb4 hg4 hM2 hA4 hc4 hpl hA5 hn5 H3 HF3 HBO3 HNF3 HB3 HNF2
  go_wp2_with fail
  refine region_tails 6 (fun ix9 => ([.is (.pointer (some ⟨R, 0, none⟩)), .is (.pointer (some ⟨R, 0, none⟩)), .is (.pointer (some ⟨R, 5, none⟩)), .is (.slice (some ⟨g5, 0, none⟩) n5 (c4 5)), .is (.int .i64 (p : Int)), .is (.agg #[.int .i64 oc, .int .i64 ov, .bool ow])] : List VD).getD ix9 (.is undef)) [some 11, some 12, some 13, some 14, some 15, some 16] (by kernel_rfl) (by kernel_rfl) (by kernel_rfl) (by kernel_rfl) rfl (fun ii hii => ?_) ?_
  · match ii, hii with
    | 0, _ => exact mstep_first rfl (mwant_none rfl) 0 (Or.inl rfl) (by kernel_rfl) (fun _ _ => rfl)
    | 1, _ => exact mstep_pure rfl (mwant_none rfl) (fun aa ww cc => ⟨.pointer (some ⟨R, 0, none⟩), by have e0 : aa.tmps.getD 11 undef = .pointer (some ⟨R, 0, none⟩) := cc.slot 0 11 (by kernel_rfl) rfl; simp only [execOp, Act.eval, e0]; go_simp, rfl⟩)
    | 2, _ => exact mstep_pure rfl (mwant_none rfl) (fun aa ww cc => ⟨.pointer (some ⟨R, 5, none⟩), by have e0 : aa.tmps.getD 12 undef = .pointer (some ⟨R, 0, none⟩) := cc.slot 1 12 (by kernel_rfl) rfl; simp only [execOp, Act.eval, e0]; go_simp, rfl⟩)
    | 3, _ => exact mstep_pure rfl (mwant_none rfl) (fun aa ww cc => ⟨.slice (some ⟨g5, 0, none⟩) n5 (c4 5), by have e0 : aa.tmps.getD 13 undef = .pointer (some ⟨R, 5, none⟩) := cc.slot 2 13 (by kernel_rfl) rfl; have q := C5.out _ cc.below; simp only [execOp, Act.eval, e0]; go_simp, rfl⟩)
    | 4, _ => exact mstep_first rfl (mwant_none rfl) 1 (Or.inl rfl) (by kernel_rfl) (fun _ _ => rfl)
    | 5, _ => exact mstep_pure rfl (mwant_none rfl) (fun aa ww cc => ⟨.agg #[.int .i64 oc, .int .i64 ov, .bool ow], by have e0 : aa.tmps.getD 5 undef = .pointer (some ⟨bo, 0, none⟩) := (cc.orig 5 (by kernel_rfl)).trans rfl; obtain ⟨q0, q1, q2⟩ := BX.out _ cc.below; simp only [execOp, Act.eval, e0]; go_simp, rfl⟩)
    | n + 6, h => exact absurd h (by show ¬ (n + 6 < 6); omega)
  · intro VV w5 hlen hb5 hok
    match VV, hlen with
    | [v0, v1, v2, v3, v4, v5], _ =>
      obtain rfl : v0 = .pointer (some ⟨R, 0, none⟩) := hok 0 11 rfl
      obtain rfl : v1 = .pointer (some ⟨R, 0, none⟩) := hok 1 12 rfl
      obtain rfl : v2 = .pointer (some ⟨R, 5, none⟩) := hok 2 13 rfl
      obtain rfl : v3 = .slice (some ⟨g5, 0, none⟩) n5 (c4 5) := hok 3 14 rfl
      obtain rfl : v4 = .int .i64 (p : Int) := hok 4 15 rfl
      obtain rfl : v5 = .agg #[.int .i64 oc, .int .i64 ov, .bool ow] := hok 5 16 rfl
      have H5 : Hid (RefM w5 R M2 A4 c4) := Lib.hid (Mem.below H4.out hb5)
      have HF5 : Hid (FrS R A w A4 w5) := Lib.hid (HF4.out.trans (FrS.below hb5))
      have HB5 : Hid (Blk w5 b7 (wcells x)) := Lib.hid (HB4.out.below hb5 HB4.out.lt)
      clear hb5 hok H4 HF4 HB4 C5 BX HBO4
      simp only [List.zip_cons_cons, List.zip_nil_right, putsL]
      go_simp
      go_wp2_with ((with_reducible show wpList _ _ _ (Oper.mk _ (Op.store _ _ _) _ _ _ _ :: _) _ _); refine wpList_rlast rfl _ _ rfl H5 HF5 ⟨oc, ov, ow⟩ HPL.out HA5 rfl rfl ?_)
      intro w6 H6 HF6 HG6
      obtain ⟨M3, hM3⟩ : ∃ X, X = ({ M2 with lasts := M2.lasts.set p ⟨oc, ov, ow⟩ } : RSt) := ⟨_, rfl⟩
      rw [← hM3] at H6
      have HB6 : Hid (Blk w6 b7 (wcells x)) := Lib.hid (HB5.out.grown HG6.out (fun e => by injection e with e; exact HNF4.out (.inr ⟨5, by rw [HA5.out]; exact congrArg some e⟩)))
      obtain ⟨n2, hn2⟩ : ∃ n2, n2 = M3.ready.length := ⟨_, rfl⟩
      have hn28 : n2 ≤ 100000 := by rw [hn2, hM3, HM2.out]; show M.ready.length ≤ 100000; have := HI.out.rl; have := HBB.out; omega
      have cr : w6.cell? ⟨R, 2, none⟩ = some (.slice (A4 2) n2 (c4 2)) := by rw [hn2]; exact Mem.head H6.out (by decide)
      have HR0 : Hid (Row (w6.alloc (.cells #[.int .i64 (p : Int)] 3)) 3 1 (A4 2) (c4 2) n2 (nums M3.ready)) := Lib.hid (by rw [hn2]; exact (Mem.row H6.out 2).below ((Below.refl _ _).alloc (Nat.le_refl _) _))
      have HS0 : Hid ((w6.alloc (.cells #[.int .i64 (p : Int)] 3)).cell? ⟨w6.heap.size, 0, none⟩ = some (.int .i64 (p : Int))) := Lib.hid (by rw [World.cell?_alloc_at _ _ _ _ rfl]; rfl)
      have HN2 := Lib.hid hn2
      have HM3 := Lib.hid hM3
      clear hn2 hM3 H5 HF5 HB5 HG6
      go_wp2_with (at_builtin; refine wpList_app_row Try.underlying28 Try.infoIt rfl (by decide) _ rfl _ _ rfl (A4 2) (c4 2) n2 (nums M3.ready) rfl HR0.out w6.heap.size _ (.int .i64 (p : Int)) rfl rfl HS0.out (by omega) ?_)
      intro A7 c7 w7 hr7 hg7 hnb7
      have hba : Below w6.heap.size w6 (w6.alloc (.cells #[.int .i64 (p : Int)] 3)) := (Below.refl _ _).alloc (Nat.le_refl _) _
      have HG7 : Hid (w6.grownBy w7 ((A4 2).map (·.block))) := Lib.hid ⟨hg7.os, hg7.tape, hg7.output, Nat.le_trans hba.size hg7.size, fun k hk hne => (hg7.block k (Nat.lt_of_lt_of_le hk hba.size) hne).trans (hba.block k hk)⟩
      have HNB7 : Hid (NewB w6 (A4 2) A7) := Lib.hid (by
        rcases hnb7 with e | e
        · exact .inl e
        · exact .inr fun g hg => Nat.le_trans hba.size (e g hg))
      have HL7 : Hid (n2 + 1 = (M3.ready ++ [p]).length) := Lib.hid (by simp [HN2.out])
      have HR7 : Hid (Row w7 3 1 A7 c7 (M3.ready ++ [p]).length (nums (M3.ready ++ [p]))) := Lib.hid (by rw [← HL7.out, show nums (M3.ready ++ [p]) = nums M3.ready ++ [.int .i64 (p : Int)] by simp [nums]]; exact hr7)
      have HB7 : Hid (Blk w7 b7 (wcells x)) := Lib.hid (HB6.out.grown HG7.out (fun e => HNF4.out (.inr ⟨2, e⟩)))
      have HR7' : Hid (w7.cell? ⟨R, 2, none⟩ = some (.slice (A4 2) n2 (c4 2))) := Lib.hid (HG7.out.cell cr (fun e => Mem.aps H6.out 2 e.symm))
      clear hr7 hg7 hnb7 hba HR0 HS0 cr HB6
      go_wp2_with ((with_reducible show wpList _ _ _ (Oper.mk _ (Op.store _ _ _) _ _ _ _ :: _) _ _); refine wpList_rready rfl 28 _ _ rfl H6 HF6 HL7.out HR7 HG7 HNB7 rfl rfl s1Ints ?_)
      intro w8 H8 HF8 HG8
      have HB8 : Hid (Blk w8 b7 (wcells x)) := Lib.hid (HB7.out.grown HG8.out (fun e => by injection e with e; exact HNF4.out (.inl e.symm)))
      have cx : w8.cell? ⟨b7, 3, none⟩ = some (.int .i64 x.item) := HB8.out.cell rfl
      have HRES : Hid (RetWk w R A (wakesM M p ⟨oc, ov, ow⟩) (.returned (.int .i64 x.item)) w8) := Lib.hid ⟨x.item, rfl, _, _, by
        have e : ({ M3 with ready := M3.ready ++ [p] } : RSt) = wakesM M p ⟨oc, ov, ow⟩ := by rw [HM3.out, HM2.out]; rfl
        rw [← e]; exact H8.out, HF8.out⟩
      clear H6 HF6 HL7 HR7 HG7 HNB7 H8 HF8 HG8 HB7 HB8 HR7'
      go_wp2
      go_ret
      exact HRES.out
end Go.Proofs.Ytgeffkdobnipgaa
/- The document's set: asked, waits. -/
namespace Nac.Procs
def askedI (M : RSt) (res : Bool) (r ticks : Int) : Int := if rrun M < 0 then 6 else if res = true ∧ (r < 0 ∨ (M.rs.length : Int) ≤ r) then 4 else if badT ticks = true then 1 else 0
def waitsM (M : RSt) (p : Nat) (r ticks item : Int) : RSt := { M with ready := without M.ready p, wts := M.wts ++ [(⟨p, r, ticks, item⟩ : Wt)] }
end Nac.Procs
namespace Go.Proofs.Ytgeffkdobnipgaa
open Go.RowKit Nac Nac.Procs
theorem asked_calls (w : World) (R : Nat) (M : RSt) (A : Nat → Option Addr) (c : Nat → Nat) (h : RefM w R M A c) (b : Nat) (hI : RInv M b) (hb : b ≤ 100) (res : Bool) (r ticks : Int) :
    Calls Try.prog 51 #[.pointer (some ⟨R, 0, none⟩), .bool res, .int .i64 r, .int .i64 ticks] w (RetId w (askedI M res r ticks)) := by
  have H := Lib.hid h
  have HI := Lib.hid hI
  have HBB := Lib.hid hb
  obtain ⟨m, hm⟩ : ∃ m, m = M.rs.length := ⟨_, rfl⟩
  have c1 : ∀ d, (w.drewN d).cell? ⟨R, 1, none⟩ = some (.slice (A 1) m (c 1)) := fun d => by rw [hm]; exact Mem.head (h.drewN d) (by decide)
  have hm8 : m ≤ 8 := by rw [hm]; exact hI.m8
  have HM := Lib.hid hm
  have C1 := Lib.hid c1
  clear h hI hb c1 hm
  by_cases hrun : rrun M < 0
  · have HX : Hid (askedI M res r ticks = 6) := Lib.hid (by unfold askedI; rw [if_pos hrun])
    rw [HX.out]
    go_enter Try.func51, Try.ntmps51
    go_wp2_with fail
    refine (rrunning_calls w R M A c H.out b HI.out HBB.out).mono ?_
    rintro e w1 ⟨rfl, d, rfl⟩
    go_wp2
    go_ret
    exact ⟨rfl, d, rfl⟩
  by_cases hres : res = true ∧ (r < 0 ∨ (M.rs.length : Int) ≤ r)
  · have HX : Hid (askedI M res r ticks = 4) := Lib.hid (by unfold askedI; rw [if_neg hrun, if_pos hres])
    rw [HX.out]
    obtain ⟨rfl, hr⟩ := hres
    rcases hr with hr | hr
    · go_enter Try.func51, Try.ntmps51
      go_wp2_with fail
      refine (rrunning_calls w R M A c H.out b HI.out HBB.out).mono ?_
      rintro e w1 ⟨rfl, d, rfl⟩
      go_wp2
      go_ret
      exact ⟨rfl, d, rfl⟩
    · have hr0 : ¬ r < 0 := by omega
      have hr1 : (m : Int) ≤ r := by rw [HM.out]; exact hr
      clear hr
      go_enter Try.func51, Try.ntmps51
      go_wp2_with fail
      refine (rrunning_calls w R M A c H.out b HI.out HBB.out).mono ?_
      rintro e w1 ⟨rfl, d, rfl⟩
      have c1 := C1.out d
      go_wp2
      go_ret
      exact ⟨rfl, d, rfl⟩
  have HNR := Lib.hid hres
  cases hbt : badT ticks with
  | true =>
    have HX : Hid (askedI M res r ticks = 1) := Lib.hid (by unfold askedI; rw [if_neg hrun, if_neg hres, if_pos hbt])
    have hb' : ticks < 0 ∨ (¬ ticks < 0 ∧ 1048576 < ticks) := by unfold badT at hbt; simp at hbt; omega
    clear hbt hres
    rw [HX.out]
    cases res with
    | false =>
      rcases hb' with hb' | ⟨hb0, hb'⟩ <;>
      · go_enter Try.func51, Try.ntmps51
        go_wp2_with fail
        refine (rrunning_calls w R M A c H.out b HI.out HBB.out).mono ?_
        rintro e w1 ⟨rfl, d, rfl⟩
        go_wp2
        go_ret
        exact ⟨rfl, d, rfl⟩
    | true =>
      have hr0 : ¬ r < 0 := fun e => HNR.out ⟨rfl, .inl e⟩
      have hr1 : ¬ (m : Int) ≤ r := fun e => HNR.out ⟨rfl, .inr (by rw [← HM.out]; exact e)⟩
      rcases hb' with hb' | ⟨hb0, hb'⟩ <;>
      · go_enter Try.func51, Try.ntmps51
        go_wp2_with fail
        refine (rrunning_calls w R M A c H.out b HI.out HBB.out).mono ?_
        rintro e w1 ⟨rfl, d, rfl⟩
        have c1 := C1.out d
        go_wp2
        go_ret
        exact ⟨rfl, d, rfl⟩
  | false =>
    have HX : Hid (askedI M res r ticks = 0) := Lib.hid (by unfold askedI; rw [if_neg hrun, if_neg hres, if_neg (by rw [hbt]; decide)])
    have hb' : ¬ ticks < 0 ∧ ¬ 1048576 < ticks := by unfold badT at hbt; simpa using hbt
    obtain ⟨hb0, hb1⟩ := hb'
    clear hbt hres
    rw [HX.out]
    cases res with
    | false =>
      go_enter Try.func51, Try.ntmps51
      go_wp2_with fail
      refine (rrunning_calls w R M A c H.out b HI.out HBB.out).mono ?_
      rintro e w1 ⟨rfl, d, rfl⟩
      go_wp2
      go_ret
      exact ⟨rfl, d, rfl⟩
    | true =>
      have hr0 : ¬ r < 0 := fun e => HNR.out ⟨rfl, .inl e⟩
      have hr1 : ¬ (m : Int) ≤ r := fun e => HNR.out ⟨rfl, .inr (by rw [← HM.out]; exact e)⟩
      go_enter Try.func51, Try.ntmps51
      go_wp2_with fail
      refine (rrunning_calls w R M A c H.out b HI.out HBB.out).mono ?_
      rintro e w1 ⟨rfl, d, rfl⟩
      have c1 := C1.out d
      go_wp2
      go_ret
      exact ⟨rfl, d, rfl⟩
def RetOut (w : World) (R : Nat) (A : Nat → Option Addr) (u : Out) (M' : RSt) (e : Ending) (w' : World) : Prop := e = .returned (.agg (ocs u).toArray) ∧ RetRef w R A M' w'
/-- a call whose result lies in a variable of its own -/
theorem RetOut.fin {w w1 wk w8 : World} {R b : Nat} {A A' : Nat → Option Addr} {c' : Nat → Nat} {M' : RSt} {u : Out} (hg1 : w.grownBy w1 none) (hbe : w.heap.size ≤ b) (hnf : ¬ Foot R A b) (hbl : b < w1.heap.size) (hf : FrS R A w1 A' wk) (hm : RefM wk R M' A' c') (hg8 : wk.grownBy w8 (some b)) : RetOut w R A u M' (.returned (.agg (ocs u).toArray)) w8 :=
  ⟨rfl, A', c', Mem.apart hm hg8 (fun x e => by injection e with e; rw [← e]; exact hf.nf hnf hbl), ((FrS.grown (S := R) (A := A) hg1 fun k e => by cases e).trans hf).bump hg8 hbe⟩
set_option maxRecDepth 100000 in
set_option maxHeartbeats 1000000 in
theorem rwaits_calls (w : World) (R : Nat) (M : RSt) (A : Nat → Option Addr) (c : Nat → Nat) (h : RefM w R M A c) (b : Nat) (hI : RInv M b) (hb : b ≤ 100) (p : Nat) (hrun : rrun M = p) (r ticks item : Int) :
    Calls Try.prog 53 #[.pointer (some ⟨R, 0, none⟩), .int .i64 r, .int .i64 ticks, .int .i64 item] w (RetOut w R A waits (waitsM M p r ticks item)) := by
  have H := Lib.hid h
  have HI := Lib.hid hI
  have HBB := Lib.hid hb
  have HRUN := Lib.hid hrun
  clear h hI hb hrun
  go_enter Try.func53, Try.ntmps53
  go_wp2_with ((with_reducible show wpList _ _ _ (Oper.mk _ (Op.alloc 37) _ _ _ _ :: _) _ _); refine wpList_allocS _ zOut rfl rfl ?_)
  intro w1 hbk hg1 hs1
  obtain ⟨b8, hb8⟩ : ∃ b, b = w.heap.size := ⟨_, rfl⟩
  rw [← hb8] at hbk ⊢
  have HNF : Hid (¬ Foot R A b8) := Lib.hid (Mem.notFoot H.out (by omega))
  have HBL : Hid (b8 < w1.heap.size) := Lib.hid (by omega)
  have HB1 := Lib.hid hbk
  have HG1 := Lib.hid hg1
  have HBE : Hid (w.heap.size ≤ b8) := Lib.hid (by omega)
  have H1 : Hid (RefM w1 R M A c) := Lib.hid (Mem.apart H.out hg1 fun k e => by cases e)
  clear hbk hg1 hs1 hb8 H
  go_wp2_with fail
  refine (rrunning_calls w1 R M A c H1.out b HI.out HBB.out).mono ?_
  rintro e w2 ⟨rfl, d, hw2⟩
  have H2 : Hid (RefM w2 R M A c) := Lib.hid (by rw [hw2]; exact H1.out.drewN d)
  have HF2 : Hid (FrS R A w1 A w2) := Lib.hid (by rw [hw2]; exact (FrS.refl R A w1).drewN d)
  rw [HRUN.out]
  obtain ⟨n, hn⟩ : ∃ n, n = M.ready.length := ⟨_, rfl⟩
  have cr : w2.cell? ⟨R, 2, none⟩ = some (.slice (A 2) n (c 2)) := by rw [hn]; exact Mem.head H2.out (by decide)
  have hn8 : n ≤ 100000 := by have := HI.out.rl; have := HBB.out; omega
  have HN := Lib.hid hn
  clear hw2 hn H1
  go_wp2_with fail
  refine (rwithout_calls w2 (A 2) (c 2) M.ready n HN.out (Mem.row H2.out 2) hn8 p).mono ?_
  rintro e w3 ⟨A3, c3, rfl, hfl⟩
  have H3 : Hid (RefM w3 R M A c) := Lib.hid (Mem.below H2.out hfl.below)
  have HF3 : Hid (FrS R A w1 A w3) := Lib.hid (HF2.out.trans (FrS.below hfl.below))
  have HR3 : Hid (Row w3 3 1 A3 c3 (without M.ready p).length (nums (without M.ready p))) := Lib.hid hfl.row
  have HNF3 : Hid (∀ g, A3.map (·.block) = some g → ¬ Foot R A g ∧ w1.heap.size ≤ g) := Lib.hid fun g hg => ⟨Mem.notFoot H2.out (hfl.fresh g hg), Nat.le_trans HF2.out.size (hfl.fresh g hg)⟩
  obtain ⟨m, hm⟩ : ∃ m, m = (without M.ready p).length := ⟨_, rfl⟩
  rw [← hm]
  have HM := Lib.hid hm
  clear hfl hm cr H2 HF2
  go_wp2_with ((with_reducible show wpList _ _ _ (Oper.mk _ (Op.store _ _ _) _ _ _ _ :: _) _ _); refine wpList_rready2 rfl 28 _ _ rfl H3 HF3 HM.out HR3 HNF3 rfl rfl s1Ints ?_)
  intro w4 H4 HF4 _
  obtain ⟨M4, hM4⟩ : ∃ X, X = ({ M with ready := without M.ready p } : RSt) := ⟨_, rfl⟩
  obtain ⟨A4, hA4⟩ : ∃ X, X = upA A 2 A3 := ⟨_, rfl⟩
  obtain ⟨c4, hc4⟩ : ∃ X, X = upC c 2 c3 := ⟨_, rfl⟩
  rw [← hM4, ← hA4, ← hc4] at H4
  rw [← hA4] at HF4
  obtain ⟨n3, hn3⟩ : ∃ n, n = M4.wts.length := ⟨_, rfl⟩
  have cw : w4.cell? ⟨R, 3, none⟩ = some (.slice (A4 3) n3 (c4 3)) := by rw [hn3]; exact Mem.head H4.out (by decide)
  have hn38 : n3 ≤ 100 := by rw [hn3, hM4]; show M.wts.length ≤ 100; have := HI.out.wl; have := HBB.out; omega
  obtain ⟨XS, hXS⟩ : ∃ XS, XS = (M4.wts.map wcells).flatten := ⟨_, rfl⟩
  have HR0 : Hid ((w4.alloc (.cells #[.int .i64 (p : Int), .int .i64 r, .int .i64 ticks, .int .i64 item] 83)).ownsRow 0 83 4 (.slice (A4 3) n3 (c4 3)) n3 XS) := Lib.hid (by rw [hn3, hXS]; exact (Mem.row H4.out 3).below ((Below.refl _ _).alloc (Nat.le_refl _) _))
  have HSRC : Hid (Src (w4.alloc (.cells #[.int .i64 (p : Int), .int .i64 r, .int .i64 ticks, .int .i64 item] 83)) (some ⟨w4.heap.size, 0, none⟩) (wcells ⟨p, r, ticks, item⟩)) := Lib.hid fun _ => ⟨_, rfl, fun j u hu => by
    rw [Addr.add_mid, Nat.zero_add]
    exact (Blk.new w4 (wcells ⟨p, r, ticks, item⟩) 83).cell hu⟩
  have hbs : ∀ w, (Instr.buildSlice 76 1 #[(0, .agg #[.int .i64 (p : Int), .int .i64 r, .int .i64 ticks, .int .i64 item])]).run Try.prog w = .ok (.slice (some ⟨w.heap.size, 0, none⟩) 1 1) (w.alloc (.cells #[.int .i64 (p : Int), .int .i64 r, .int .i64 ticks, .int .i64 item] 83)) := fun w => buildS_wt w ⟨p, r, ticks, item⟩
  have HN3 := Lib.hid hn3
  have HXS := Lib.hid hXS
  have HM4 := Lib.hid hM4
  clear hn3 hXS hM4 hA4 hc4 H3 HF3 HR3 HNF3 HM
  go_wp2_with (at_builtin; refine wpList_app _ rfl _ _ 76 rfl 0 83 _ 4 32 Try.underlying76 Try.infoWt rfl (by decide) (A4 3) n3 (c4 3) XS rfl HR0.out (some ⟨w4.heap.size, 0, none⟩) 1 1 (wcells ⟨p, r, ticks, item⟩) rfl rfl HSRC.out (wcells_one _) (by omega) (by unfold maxLen; omega) (Nat.zero_le _) ?_)
  intro A5 c5 w5 hr5 hg5 hb5
  have HG5 : Hid (w4.grownBy w5 ((A4 3).map (·.block))) := Lib.hid ⟨hg5.os, hg5.tape, hg5.output, Nat.le_trans (by simp) hg5.size, fun k hk hne => (hg5.block k (by simp; omega) hne).trans (((Below.refl w4.heap.size w4).alloc (Nat.le_refl _) _).block k hk)⟩
  have HNB5 : Hid (NewB w4 (A4 3) A5) := Lib.hid (by
    rcases hb5 with e | e
    · exact .inl e
    · right
      intro g hgg
      first
        | (obtain ⟨a, rfl, ha⟩ := e; rw [Option.map_some] at hgg; injection hgg with hgg; omega)
        | (rw [e] at hgg; injection hgg with hgg; simp at hgg; omega))
  have HL5 : Hid (n3 + 1 = (M4.wts ++ [(⟨p, r, ticks, item⟩ : Wt)]).length) := Lib.hid (by simp [HN3.out])
  have HR5 : Hid (Row w5 83 4 A5 c5 (M4.wts ++ [(⟨p, r, ticks, item⟩ : Wt)]).length ((M4.wts ++ [(⟨p, r, ticks, item⟩ : Wt)]).map wcells).flatten) := Lib.hid (by
    rw [← HL5.out, show ((M4.wts ++ [(⟨p, r, ticks, item⟩ : Wt)]).map wcells).flatten = XS ++ wcells ⟨p, r, ticks, item⟩ by rw [HXS.out]; simp]
    exact hr5)
  clear hr5 hg5 hb5 HR0 HSRC hbs cw
  go_wp2_with ((with_reducible show wpList _ _ _ (Oper.mk _ (Op.store _ _ _) _ _ _ _ :: _) _ _); refine wpList_rwts rfl 76 _ _ rfl H4 HF4 HL5.out HR5 HG5 HNB5 rfl rfl s1Wts ?_)
  intro w6 H6 HF6 _
  have HE : Hid (({ M4 with wts := M4.wts ++ [(⟨p, r, ticks, item⟩ : Wt)] } : RSt) = waitsM M p r ticks item) := Lib.hid (by rw [HM4.out]; rfl)
  rw [HE.out] at H6
  have HBZ : Hid (Blk w6 b8 [.int .i64 0, .int .i64 0, .bool false]) := Lib.hid (HF6.out.blk HB1.out HNF.out)
  clear H4 HF4 HL5 HR5 HG5 HNB5
  go_wp2_with ((with_reducible show wpList _ _ _ (Oper.mk _ (Op.store 37 _ _) _ _ _ _ :: _) _ _); refine wpList_storeS sOut rfl _ _ rfl b8 [.int .i64 0, .int .i64 0, .bool false] (ocs waits) rfl rfl HBZ.out rfl rfl (ocs_one _) ?_)
  intro w8 hb8 hg8
  have l8 := Lib.hid (run_loadS sOut b8 _ hb8 rfl)
  have HRS := Lib.hid (RetOut.fin (u := waits) HG1.out HBE.out HNF.out HBL.out HF6.out H6.out hg8)
  clear hb8 hg8
  go_wp2
  exact bodyPost_ret (v := .agg (ocs waits).toArray) (by simp [results, Try.results53, asAddr, Sem.run_bind, Sem.run_pure, l8.out]) rfl HRS.out
end Go.Proofs.Ytgeffkdobnipgaa
