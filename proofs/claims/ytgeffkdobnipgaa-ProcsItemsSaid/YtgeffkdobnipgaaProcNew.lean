/- procs: valid, New. -/
import Derived.Test.YtgeffkdobnipgaaProcTick
import Derived.Test.YtgeffkdobnipgaaAppN
namespace Nac.Procs
structure RIn where
  kind : Int
  count : Int
  most : Int
/-- may the resource be? -/
structure RIn.Ok (r : RIn) : Prop where
  kind : r.kind = 0 ∨ r.kind = 1 ∨ r.kind = 2
  lo : 1 ≤ r.most
  hi : r.most ≤ 16
  one : r.kind = 1 → r.most = 1
  c0 : 0 ≤ r.count
  c1 : r.count ≤ r.most
  none : r.kind = 2 → r.count = 0
structure OkNew (prs : List Int) (rs : List RIn) : Prop where
  n1 : 1 ≤ prs.length
  n8 : prs.length ≤ 8
  m8 : rs.length ≤ 8
  pr : ∀ p ∈ prs, 0 ≤ p ∧ p ≤ 63
  rs : ∀ r ∈ rs, r.Ok
def prc0 (p : Int) : Prc := ⟨p, 0, ok, 0, 0, 0⟩
def rsc0 (r : RIn) : Rsc := ⟨r.kind, r.count, r.most, [], []⟩
def P0 (prs : List Int) (rs : List RIn) : PSet := ⟨prs.map prc0, rs.map rsc0, []⟩
theorem P0_proc {prs : List Int} {rs : List RIn} {p : Nat} (hp : p < prs.length) : (P0 prs rs).proc p = prc0 prs[p] := by simp [P0, PSet.proc, List.getD, hp]
theorem P0_rsc {prs : List Int} {rs : List RIn} {r : Nat} (hr : r < rs.length) : (P0 prs rs).rsc r = rsc0 rs[r] := by simp [P0, PSet.rsc, List.getD, hr]
theorem P0_inv {prs : List Int} {rs : List RIn} (h : OkNew prs rs) : Inv (P0 prs rs) := by
  have hn : (P0 prs rs).ps.length = prs.length := by simp [P0]
  have hm : (P0 prs rs).rs.length = rs.length := by simp [P0]
  have hp : ∀ p, p < (P0 prs rs).ps.length → ∃ z ∈ prs, (P0 prs rs).proc p = prc0 z := fun p hp => by
    rw [hn] at hp
    exact ⟨_, List.getElem_mem hp, P0_proc hp⟩
  have hr : ∀ r, r < (P0 prs rs).rs.length → ∃ z ∈ rs, (P0 prs rs).rsc r = rsc0 z := fun r hr => by
    rw [hm] at hr
    exact ⟨_, List.getElem_mem hr, P0_rsc hr⟩
  refine ⟨by rw [hn]; exact h.n1, by rw [hn]; exact h.n8, by rw [hm]; exact h.m8, List.nodup_nil, fun p => ?_, fun r hr' => ?_, fun r hr' p => ?_, fun p hp' => ?_, fun p hp' => ?_, fun p hp' h2 => ?_, fun p hp' h2 _ => ?_, fun r hr' => ?_, fun r hr' => ?_, fun r hr' => ?_, fun r hr' hk => ?_, fun r hr' _ hne => ?_⟩
  · constructor
    · intro h; exact absurd h (by simp [P0])
    · rintro ⟨h1, h2, _⟩
      obtain ⟨z, _, e⟩ := hp p h1
      rw [e] at h2; exact absurd (show (0 : Int) = 1 from h2) (by decide)
  · obtain ⟨z, _, e⟩ := hr r hr'; rw [e]; exact List.nodup_nil
  · obtain ⟨z, _, e⟩ := hr r hr'
    rw [e]
    constructor
    · intro h; exact absurd h (by simp [rsc0])
    · rintro ⟨h1, h2, _⟩
      obtain ⟨z, _, e⟩ := hp p h1
      rw [e] at h2; exact absurd (show (0 : Int) = 2 from h2) (by decide)
  · obtain ⟨z, _, e⟩ := hp p hp'; rw [e]; exact .inl rfl
  · obtain ⟨z, hz, e⟩ := hp p hp'; rw [e]; exact h.pr z hz
  · obtain ⟨z, _, e⟩ := hp p hp'; rw [e] at h2; exact absurd (show (0 : Int) = 2 from h2) (by decide)
  · obtain ⟨z, _, e⟩ := hp p hp'; rw [e] at h2; exact absurd (show (0 : Int) = 2 from h2) (by decide)
  · obtain ⟨z, hz, e⟩ := hr r hr'; rw [e]; exact (h.rs z hz).kind
  · obtain ⟨z, hz, e⟩ := hr r hr'; rw [e]; exact ⟨(h.rs z hz).lo, (h.rs z hz).hi, (h.rs z hz).one⟩
  · obtain ⟨z, hz, e⟩ := hr r hr'; rw [e]; exact ⟨(h.rs z hz).c0, (h.rs z hz).c1⟩
  · obtain ⟨z, hz, e⟩ := hr r hr'; rw [e] at hk ⊢; exact (h.rs z hz).none hk
  · obtain ⟨z, _, e⟩ := hr r hr'; rw [e] at hne; exact absurd rfl hne
end Nac.Procs
namespace Go.Proofs.Ytgeffkdobnipgaa
open Go.RowKit Nac Nac.Procs
def RetBb (w : World) (b : Bool) (e : Ending) (w' : World) : Prop := e = .returned (.bool b) ∧ Below w.heap.size w w'
set_option maxHeartbeats 1000000 in
theorem valid_ok (w : World) (r : RIn) (h : r.Ok) : Calls Try.prog 23 #[.agg #[.int .i64 r.kind, .int .i64 r.count, .int .i64 r.most]] w (RetBb w true) := by
  obtain ⟨k, cn, mo⟩ := r
  obtain ⟨hk, h1, h2, h3, h4, h5, h6⟩ := h
  simp only at hk h1 h2 h3 h4 h5 h6
  rcases hk with rfl | rfl | rfl
  · clear h3 h6
    go_enter Try.func23, Try.ntmps23
    go_wp2
    go_ret
    exact ⟨rfl, (Below.refl _ _).alloc (Nat.le_refl _) _⟩
  · obtain rfl := h3 rfl
    clear h3 h6 h1 h2
    go_enter Try.func23, Try.ntmps23
    go_wp2
    go_ret
    exact ⟨rfl, (Below.refl _ _).alloc (Nat.le_refl _) _⟩
  · obtain rfl := h6 rfl
    clear h3 h6 h4 h5
    go_enter Try.func23, Try.ntmps23
    go_wp2
    go_ret
    exact ⟨rfl, (Below.refl _ _).alloc (Nat.le_refl _) _⟩
/-- the slice at A reads as resources, below block B -/
def RR (w : World) (B : Nat) (A : Option Addr) (l : List RIn) : Prop :=
  l ≠ [] → ∃ b o, A = some ⟨b, o, none⟩ ∧ b < B ∧ ∀ j (h : j < l.length), w.cell? ⟨b, o + j * 3, none⟩ = some (.int .i64 l[j].kind) ∧ w.cell? ⟨b, o + j * 3 + 1, none⟩ = some (.int .i64 l[j].count) ∧ w.cell? ⟨b, o + j * 3 + 2, none⟩ = some (.int .i64 l[j].most)
theorem RR.below {w w' : World} {B : Nat} {A : Option Addr} {l : List RIn} (h : RR w B A l) (hb : Below B w w') : RR w' B A l := fun hn => by
  obtain ⟨b, o, hA, hlt, hc⟩ := h hn
  exact ⟨b, o, hA, hlt, fun j hj => ⟨(hb.cell hlt).trans (hc j hj).1, (hb.cell hlt).trans (hc j hj).2.1, (hb.cell hlt).trans (hc j hj).2.2⟩⟩
theorem RR.mono {w : World} {B B' : Nat} {A : Option Addr} {l : List RIn} (h : RR w B A l) (hB : B ≤ B') : RR w B' A l := fun hn => by
  obtain ⟨b, o, hA, hb, hc⟩ := h hn
  exact ⟨b, o, hA, by omega, hc⟩
theorem RR.get {w : World} {B : Nat} {A : Option Addr} {l : List RIn} (h : RR w B A l) {k : Nat} (hk : k < l.length) :
    ∃ b o, A = some ⟨b, o, none⟩ ∧ b < B ∧ w.cell? ⟨b, o + k * 3, none⟩ = some (.int .i64 l[k].kind) ∧ w.cell? ⟨b, o + k * 3 + 1, none⟩ = some (.int .i64 l[k].count) ∧ w.cell? ⟨b, o + k * 3 + 2, none⟩ = some (.int .i64 l[k].most) := by
  obtain ⟨b, o, hA, hb, hc⟩ := h (by intro e; subst e; simp at hk)
  exact ⟨b, o, hA, hb, hc k hk⟩
theorem Try.infoPrc : (Try.prog.info? 54).map (fun i => (i.zero, i.size, i.bytes)) = some (some (.agg #[.int .i64 0, .int .i64 0, .int .i64 0, .int .i64 0, .bool false, .int .i64 0, .int .i64 0, .int .i64 0]), 8, 64) := by kernel_rfl
theorem Try.infoRsc : (Try.prog.info? 58).map (fun i => (i.zero, i.size, i.bytes)) = some (some (.agg #[.int .i64 0, .int .i64 0, .int .i64 0, .slice none 0 0, .slice none 0 0]), 5, 72) := by kernel_rfl
theorem build_prc (w : World) (x : Int) : (Instr.build 54 #[(0, .int .i64 x), (1, .int .i64 0)]).run Try.prog w = .ok (.agg #[.int .i64 x, .int .i64 0, .int .i64 0, .int .i64 0, .bool false, .int .i64 0, .int .i64 0, .int .i64 0]) w := run_build w _ _ _ (by kernel_rfl)
theorem build_rsc (w : World) (x y z : Int) : (Instr.build 58 #[(0, .agg #[.int .i64 x, .int .i64 y, .int .i64 z])]).run Try.prog w = .ok (.agg #[.int .i64 x, .int .i64 y, .int .i64 z, .slice none 0 0, .slice none 0 0]) w := run_build w _ _ _ (by kernel_rfl)
theorem buildS_prc (w : World) (x : Int) : (Instr.buildSlice 49 1 #[(0, .agg #[.int .i64 x, .int .i64 0, .int .i64 0, .int .i64 0, .bool false, .int .i64 0, .int .i64 0, .int .i64 0])]).run Try.prog w = .ok (.slice (some ⟨w.heap.size, 0, none⟩) 1 1) (w.alloc (.cells #[.int .i64 x, .int .i64 0, .int .i64 0, .int .i64 0, .bool false, .int .i64 0, .int .i64 0, .int .i64 0] 54)) := by
  obtain ⟨ti, hi, hz, hs1, hb1⟩ := info_parts Try.infoPrc
  refine run_buildSlice w _ _ 1 _ _ ti _ Try.underlying49 hi hz (by rw [hs1]; decide) (by rw [hs1]; decide) ?_
  rw [hs1]; kernel_rfl
theorem buildS_rsc (w : World) (x y z : Int) : (Instr.buildSlice 50 1 #[(0, .agg ([.int .i64 x, .int .i64 y, .int .i64 z, .slice none 0 0, .slice none 0 0] : List Value).toArray)]).run Try.prog w = .ok (.slice (some ⟨w.heap.size, 0, none⟩) 1 1) (w.alloc (.cells ([.int .i64 x, .int .i64 y, .int .i64 z, .slice none 0 0, .slice none 0 0] : List Value).toArray 58)) := by
  obtain ⟨ti, hi, hz, hs1, hb1⟩ := info_parts Try.infoRsc
  refine run_buildSlice w _ _ 1 _ _ ti _ Try.underlying50 hi hz (by rw [hs1]; decide) (by rw [hs1]; decide) ?_
  rw [hs1]; kernel_rfl
theorem sSet : SInfo 52 3 := ⟨by kernel_rfl, _, Try.underlying52, rfl⟩
theorem sRin : SInfo 30 3 := ⟨by kernel_rfl, _, Try.underlying30, rfl⟩
theorem zRin : ((Try.prog.info? 30).bind (·.zero)) = some (.agg (([.int .i64 0, .int .i64 0, .int .i64 0] : List Value).toArray)) := by kernel_rfl
theorem s1Prcs : (Try.prog.info? 49).map (·.size) = some 1 := by kernel_rfl
theorem s1Rscs : (Try.prog.info? 50).map (·.size) = some 1 := by kernel_rfl
theorem rsc_one {x y z : Int} : ∀ u ∈ ([.int .i64 x, .int .i64 y, .int .i64 z, .slice none 0 0, .slice none 0 0] : List Value), u.oneCell' = true := by intro u hu; simp at hu; rcases hu with rfl | rfl | rfl | rfl <;> rfl
theorem rin_one {x y z : Int} : ∀ u ∈ ([.int .i64 x, .int .i64 y, .int .i64 z] : List Value), u.oneCell' = true := by intro u hu; simp at hu; rcases hu with rfl | rfl | rfl <;> rfl
theorem prc_one (x : Prc) : ∀ u ∈ pcells x, u.oneCell' = true := by intro u hu; simp [pcells] at hu; rcases hu with rfl | rfl | rfl | rfl | rfl | rfl | rfl | rfl <;> rfl
def rcell0 (x : Rsc) : List Value := rcells x none 0 none 0
/-- a set that is being made -/
structure NewM (w : World) (S : Nat) (A0 A1 : Option Addr) (c0 c1 : Nat) (ps : List Prc) (rs : List Rsc) (wr : World) : Prop where
  below : Below w.heap.size w wr
  blk : Blk wr S [.slice A0 ps.length c0, .slice A1 rs.length c1, .slice none 0 0]
  po : Row wr 54 8 A0 c0 ps.length (ps.map pcells).flatten
  ro : Row wr 58 5 A1 c1 rs.length (rs.map rcell0).flatten
  sS : w.heap.size ≤ S
  a0 : ∀ g, A0.map (·.block) = some g → w.heap.size ≤ g ∧ g ≠ S
  a1 : ∀ g, A1.map (·.block) = some g → w.heap.size ≤ g ∧ g ≠ S ∧ A0.map (·.block) ≠ some g
def NewRes (w : World) (P : PSet) (e : Ending) (w' : World) : Prop := ∃ S A c, e = .returned (.tuple #[.pointer (some ⟨S, 0, none⟩), .int .i64 0]) ∧ SetM w' S P A c ∧ (∀ k, Foot S A k → w.heap.size ≤ k) ∧ Below w.heap.size w w'
theorem NewM.done {w wr : World} {S : Nat} {A0 A1 : Option Addr} {c0 c1 : Nat} {ps : List Prc} {rs : List Rsc} (h : NewM w S A0 A1 c0 c1 ps rs wr) (hq : ∀ x ∈ rs, x.q = [] ∧ x.items = []) : NewRes w ⟨ps, rs, []⟩ (.returned (.tuple #[.pointer (some ⟨S, 0, none⟩), .int .i64 0])) wr := by
  have hg : ∀ i, (rs.getD i default).q = [] ∧ (rs.getD i default).items = [] := fun i => by
    by_cases hi : i < rs.length
    · have : rs.getD i default = rs[i] := by simp [List.getD, hi]
      rw [this]; exact hq _ (List.getElem_mem hi)
    · have : rs.getD i default = default := by simp [List.getD, List.getElem?_eq_none (Nat.le_of_not_lt hi)]
      rw [this]; exact ⟨rfl, rfl⟩
  have hf : ∀ k, Foot S (fun j => if j = 0 then A0 else if j = 1 then A1 else none) k → w.heap.size ≤ k := by
    rintro k (rfl | ⟨j, hj⟩)
    · exact h.sS
    · simp only at hj
      split at hj
      · exact (h.a0 k hj).1
      · split at hj
        · exact (h.a1 k hj).1
        · simp at hj
  refine ⟨S, fun j => if j = 0 then A0 else if j = 1 then A1 else none, fun j => if j = 0 then c0 else if j = 1 then c1 else 0, rfl, ⟨h.blk, h.po, ?_, Row.nil _ _ _, fun i _ => ?_, fun i _ => ?_, ?_, ?_, ?_⟩, hf, h.below⟩
  · have e : rrows rs (fun j => if j = 0 then A0 else if j = 1 then A1 else none) (fun j => if j = 0 then c0 else if j = 1 then c1 else 0) = rs.map rcell0 := by
      refine List.ext_getElem (by simp [rrows]) fun i h1 h2 => ?_
      have hi : i < rs.length := by simpa using h2
      rw [rr_get rs _ _ h1]
      have e1 : rs.getD i default = rs[i] := by simp [List.getD, hi]
      rw [e1, List.getElem_map]
      unfold rcell0
      simp only [show ¬ (3 + 2 * i = 0) by omega, show ¬ (3 + 2 * i = 1) by omega, show ¬ (4 + 2 * i = 0) by omega, show ¬ (4 + 2 * i = 1) by omega, if_false]
    show Row wr _ 5 A1 c1 rs.length (rrows rs _ _).flatten
    rw [e]; exact h.ro
  · have := (hg i).1
    show Row wr _ 1 (if 3 + 2 * i = 0 then A0 else if 3 + 2 * i = 1 then A1 else none) (if 3 + 2 * i = 0 then c0 else if 3 + 2 * i = 1 then c1 else 0) ((rs.getD i default).q).length (nums ((rs.getD i default).q))
    rw [this]
    simp only [show ¬ (3 + 2 * i = 0) by omega, show ¬ (3 + 2 * i = 1) by omega, if_false]
    exact Row.nil _ _ _
  · have := (hg i).2
    show Row wr _ 1 (if 4 + 2 * i = 0 then A0 else if 4 + 2 * i = 1 then A1 else none) (if 4 + 2 * i = 0 then c0 else if 4 + 2 * i = 1 then c1 else 0) ((rs.getD i default).items).length (((rs.getD i default).items).map (Value.int .i64))
    rw [this]
    simp only [show ¬ (4 + 2 * i = 0) by omega, show ¬ (4 + 2 * i = 1) by omega, if_false]
    exact Row.nil _ _ _
  · intro j k g hjk hj hk
    split at hj
    · subst_vars
      rw [if_neg (fun e => hjk e.symm)] at hk
      split at hk
      · exact (h.a1 g hk).2.2 hj
      · simp at hk
    · split at hj
      · subst_vars
        split at hk
        · exact (h.a1 g hj).2.2 hk
        · rw [if_neg (fun e => hjk e.symm)] at hk; simp at hk
      · simp at hj
  · intro j hj
    split at hj
    · exact (h.a0 S hj).2 rfl
    · split at hj
      · exact (h.a1 S hj).2.1 rfl
      · simp at hj
  · intro j hj
    have : ¬ j = 0 ∧ ¬ j = 1 := by omega
    simp only [this.1, this.2, if_false]
set_option maxRecDepth 100000 in
set_option maxHeartbeats 1000000 in
theorem new_ok (w : World) (Ap Ar : Option Addr) (cp cr : Nat) (prs : List Int) (rs : List RIn) (np nr : Nat) (hnp : np = prs.length) (hnr : nr = rs.length) (hp : RI w w.heap.size Ap prs) (hr : RR w w.heap.size Ar rs) (hok : OkNew prs rs) :
    Calls Try.prog 10 #[.slice Ap np cp, .slice Ar nr cr] w (NewRes w (P0 prs rs)) := by
  have h1 : 1 ≤ np := by rw [hnp]; exact hok.n1
  have h2 : np ≤ 8 := by rw [hnp]; exact hok.n8
  have h3 : nr ≤ 8 := by rw [hnr]; exact hok.m8
  have HNP := Lib.hid hnp
  have HNR := Lib.hid hnr
  have HP := Lib.hid hp
  have HR := Lib.hid hr
  have HOK := Lib.hid hok
  clear hnp hnr hp hr hok
  go_enter Try.func10, Try.ntmps10
  go_wp2_with ((with_reducible show wpList _ _ _ (Oper.mk _ (Op.box 52 _) _ _ _ _ :: _) _ _); refine wpList_boxS (T := 52) rfl _ rfl [.slice none 0 0, .slice none 0 0, .slice none 0 0] rfl ?_)
  intro w1 hb1 hg1 hs1
  obtain ⟨S, hS⟩ : ∃ S, S = w.heap.size := ⟨_, rfl⟩
  rw [← hS] at hb1 ⊢
  have HN0 : Hid (NewM w S none none 0 0 (((prs.take 0).map prc0)) [] w1) := Lib.hid ⟨grown_below hg1 (Nat.le_refl _) (fun k e => by cases e), hb1, Row.nil _ _ _, Row.nil _ _ _, by omega, fun g e => (by cases e), fun g e => (by cases e)⟩
  have HSE : Hid (S = w.heap.size) := Lib.hid hS
  clear hb1 hg1 hs1 hS
  go_wp2
  go_loopw [28] (fun i wr => ∃ (k : Nat) (A0 : Option Addr) (c0 : Nat), k ≤ np ∧ i = .int .i64 k ∧ NewM w S A0 none c0 0 ((prs.take k).map prc0) [] wr) (fun i _ => np - (intOf i).toNat)
  case atStart => exact ⟨0, none, 0, Nat.zero_le _, rfl, HN0.out⟩
  case round =>
    obtain ⟨k, A0, c0, hk, rfl, hnm⟩ := hrel
    have HNM := Lib.hid hnm
    by_cases hlt : k < np
    · have hkl : k < prs.length := by rw [← HNP.out]; exact hlt
      obtain ⟨b, o, hA, hb, hc⟩ := HP.out.get hkl
      obtain ⟨x, hx⟩ : ∃ x, x = prs[k] := ⟨_, rfl⟩
      rw [← hx] at hc
      have hxr := HOK.out.pr x (by rw [hx]; exact List.getElem_mem _)
      obtain ⟨hx1, hx2⟩ := hxr
      have hx1' : ¬ x < 0 := by omega
      have hx2' : ¬ 63 < x := by omega
      have hc' : wr.cell? ⟨b, o + k, none⟩ = some (.int .i64 x) := (hnm.below.cell hb).trans hc
      obtain ⟨k', hk'⟩ : ∃ k', k' = ((prs.take k).map prc0).length := ⟨_, rfl⟩
      have hkk : k' = k := by rw [hk']; simp; omega
      have cS : wr.cell? ⟨S, 0, none⟩ = some (.slice A0 k c0) := by rw [← hkk, hk']; exact hnm.blk.cell rfl
      have HTK : Hid ((prs.take (k + 1)).map prc0 = (prs.take k).map prc0 ++ [prc0 x]) := Lib.hid (by rw [List.take_succ_eq_append_getElem hkl, List.map_append, hx]; rfl)
      obtain ⟨XS, hXS⟩ : ∃ XS, XS = (((prs.take k).map prc0).map pcells).flatten := ⟨_, rfl⟩
      have HXS := Lib.hid hXS
      have HPO : Hid (Row wr 54 8 A0 c0 k XS) := Lib.hid (by rw [hXS]; have h7 := hnm.po; rw [show ((prs.take k).map prc0).length = k from hk'.symm.trans hkk] at h7; exact h7)
      have HLK : Hid (((prs.take k).map prc0).length = k) := Lib.hid (hk'.symm.trans hkk)
      subst hA
      clear hb hc hx hkl hk' hkk hnm HN0 hXS
      have hbp := build_prc
      have hbs := buildS_prc
      have HR0 : Hid (Row (wr.alloc (.cells #[.int .i64 x, .int .i64 0, .int .i64 0, .int .i64 0, .bool false, .int .i64 0, .int .i64 0, .int .i64 0] 54)) 54 8 A0 c0 k XS) := Lib.hid (HPO.out.below ((Below.refl _ _).alloc (Nat.le_refl _) _))
      have HSRC : Hid (Src (wr.alloc (.cells #[.int .i64 x, .int .i64 0, .int .i64 0, .int .i64 0, .bool false, .int .i64 0, .int .i64 0, .int .i64 0] 54)) (some ⟨wr.heap.size, 0, none⟩) (pcells (prc0 x))) := Lib.hid fun _ => ⟨_, rfl, fun j u hu => by
        rw [Addr.add_mid, Nat.zero_add]
        exact (Blk.new wr (pcells (prc0 x)) 54).cell hu⟩
      go_wp2_with (at_builtin; refine wpList_app _ rfl _ _ 49 rfl 0 54 _ 8 64 Try.underlying49 Try.infoPrc rfl (by decide) A0 k c0 _ rfl HR0.out (some ⟨wr.heap.size, 0, none⟩) 1 1 (pcells (prc0 x)) rfl rfl HSRC.out (prc_one _) (by omega) (by unfold maxLen; omega) (Nat.zero_le _) ?_)
      intro A2 c2 w5 hr5 hg5 hb5
      have hba : Below wr.heap.size wr (wr.alloc (.cells #[.int .i64 x, .int .i64 0, .int .i64 0, .int .i64 0, .bool false, .int .i64 0, .int .i64 0, .int .i64 0] 54)) := (Below.refl _ _).alloc (Nat.le_refl _) _
      have hgw : wr.grownBy w5 (A0.map (·.block)) := ⟨hg5.os, hg5.tape, hg5.output, Nat.le_trans hba.size hg5.size, fun k hk hne => (hg5.block k (Nat.lt_of_lt_of_le hk hba.size) hne).trans (hba.block k hk)⟩
      have HBW : Hid (Below w.heap.size w w5) := Lib.hid (HNM.out.below.trans (grown_below hgw HNM.out.below.size fun k e => (HNM.out.a0 k e).1))
      have HBS : Hid (Blk w5 S [.slice A0 k c0, .slice none 0 0, .slice none 0 0]) := Lib.hid (by
        have := HNM.out.blk
        rw [HLK.out] at this
        exact this.grown hgw fun e => (HNM.out.a0 S e).2 rfl)
      have HA2 : Hid (∀ g, A2.map (·.block) = some g → w.heap.size ≤ g ∧ g ≠ S) := Lib.hid fun g hg => by
        rcases hb5 with e | e
        · exact HNM.out.a0 g (e.symm.trans hg)
        · obtain ⟨a, rfl, ha⟩ := e
          rw [Option.map_some] at hg
          injection hg with hg
          have h7 := HNM.out.below.size
          have h8 := HNM.out.blk.lt
          exact ⟨by omega, by omega⟩
      have HR5 := Lib.hid hr5
      clear hr5 hg5 hb5 hba hgw HR0 HSRC HPO cS hc' hbp hbs
      go_wp2_with ((with_reducible show wpList _ _ _ (Oper.mk _ (Op.store _ _ _) _ _ _ _ :: _) _ _); refine wpList_storeB rfl 49 _ _ rfl S 0 [.slice A0 k c0, .slice none 0 0, .slice none 0 0] (.slice A2 (k + 1) c2) rfl rfl HBS.out (Nat.succ_pos 2) s1Prcs rfl ?_)
      intro w6 hb6 hg6
      have HN6 : Hid (NewM w S A2 none c2 0 ((prs.take (k + 1)).map prc0) [] w6) := Lib.hid (by
        rw [HTK.out]
        refine ⟨HBW.out.trans (grown_below hg6 HBW.out.size fun k e => by injection e with e; rw [← e, HSE.out]; exact Nat.le_refl _), ?_, ?_, Row.nil _ _ _, by rw [HSE.out]; exact Nat.le_refl _, HA2.out, fun g e => (by cases e)⟩
        · rw [List.length_append, HLK.out]; exact hb6
        · rw [List.length_append, HLK.out, List.map_append, List.flatten_append]
          have h7 : Row w5 54 8 A2 c2 (k + 1) (XS ++ pcells (prc0 x)) := HR5.out
          have h8 := h7.kept hg6 (.inr fun e => (HA2.out S e).2 rfl)
          rw [HXS.out] at h8
          simpa using h8)
      clear hb6 hg6 HBS HR5 HBW HA2 HTK
      go_wp2
      go_roundw
      case rel => exact ⟨k + 1, A2, c2, by omega, by go_num, HN6.out⟩
      case measure => simp [intOf]; omega
    · have hkn : k = np := by omega
      have HN1 : Hid (NewM w S A0 none c0 0 (prs.map prc0) ((rs.take 0).map rsc0) wr) := Lib.hid (by rw [hkn, HNP.out, List.take_length] at hnm; exact hnm)
      subst hkn
      clear hnm HNM HN0
      go_wp2
      go_loopw [52] (fun i wr => ∃ (j : Nat) (A1 : Option Addr) (c1 : Nat), j ≤ nr ∧ i = .int .i64 j ∧ NewM w S A0 A1 c0 c1 (prs.map prc0) ((rs.take j).map rsc0) wr) (fun i _ => nr - (intOf i).toNat)
      case atStart => exact ⟨0, none, 0, Nat.zero_le _, rfl, HN1.out⟩
      case round =>
        rename_i wr0 wr
        obtain ⟨j, A1, c1, hj, rfl, hnm⟩ := hrel
        have HNM := Lib.hid hnm
        by_cases hlt : j < nr
        · have hjl : j < rs.length := by rw [← HNR.out]; exact hlt
          obtain ⟨b, o, hA, hb, hc0, hc1, hc2⟩ := HR.out.get hjl
          obtain ⟨rk, rc, rm, hr⟩ : ∃ rk rc rm, rs[j] = ⟨rk, rc, rm⟩ := ⟨_, _, _, rfl⟩
          rw [hr] at hc0 hc1 hc2
          have HRO : Hid (RIn.Ok ⟨rk, rc, rm⟩) := Lib.hid (by rw [← hr]; exact HOK.out.rs _ (List.getElem_mem _))
          have HRG : Hid (wr.rangeAt b (o + j * 3) [.int .i64 rk, .int .i64 rc, .int .i64 rm]) := Lib.hid fun f v hv => by
            have hf : f < 3 := (List.getElem?_eq_some_iff.1 hv).1
            rcases (by omega : f = 0 ∨ f = 1 ∨ f = 2) with rfl | rfl | rfl
            · simp at hv; subst hv; exact (hnm.below.cell hb).trans hc0
            · simp at hv; subst hv; exact (hnm.below.cell hb).trans hc1
            · simp at hv; subst hv; exact (hnm.below.cell hb).trans hc2
          obtain ⟨XS, hXS⟩ : ∃ XS, XS = (((rs.take j).map rsc0).map rcell0).flatten := ⟨_, rfl⟩
          have HLJ : Hid (((rs.take j).map rsc0).length = j) := Lib.hid (by simp; omega)
          have HTK : Hid ((rs.take (j + 1)).map rsc0 = (rs.take j).map rsc0 ++ [rsc0 ⟨rk, rc, rm⟩]) := Lib.hid (by rw [List.take_succ_eq_append_getElem hjl, List.map_append, hr]; rfl)
          have HRO1 : Hid (Row wr 58 5 A1 c1 j XS) := Lib.hid (by have h7 := hnm.ro; rw [HLJ.out, ← hXS] at h7; exact h7)
          have HXS := Lib.hid hXS
          subst hA
          clear hb hc0 hc1 hc2 hjl hr hnm hXS HN1
          go_wp2_with (first | ((with_reducible show wpList _ _ _ (Oper.mk _ (Op.load 30 _) _ _ _ _ :: _) _ _); refine wpList_load_mid rfl 30 _ rfl b (o + j * 3) rfl [.int .i64 rk, .int .i64 rc, .int .i64 rm] _ HRG.out Try.underlying30 rfl sRin.info ?_) | ((with_reducible show wpList _ _ _ (Oper.mk _ (Op.alloc 30) _ _ _ _ :: _) _ _); refine wpList_allocS _ zRin rfl rfl ?_))
          intro w2 hb2 hg2 hs2
          obtain ⟨bx, hbx⟩ : ∃ b, b = wr.heap.size := ⟨_, rfl⟩
          rw [← hbx] at hb2 ⊢
          have HB2 := Lib.hid hb2
          have HG2 := Lib.hid hg2
          have HBX := Lib.hid hbx
          clear hb2 hg2 hs2 hbx HRG
          go_wp2_with ((with_reducible show wpList _ _ _ (Oper.mk _ (Op.store 30 _ _) _ _ _ _ :: _) _ _); refine wpList_storeS sRin rfl _ _ rfl bx [.int .i64 0, .int .i64 0, .int .i64 0] [.int .i64 rk, .int .i64 rc, .int .i64 rm] rfl rfl HB2.out rfl rfl rin_one ?_)
          intro w3 hb3 hg3
          have HB3 := Lib.hid hb3
          have HW3 : Hid (Below wr.heap.size wr w3) := Lib.hid ((grown_below HG2.out (Nat.le_refl _) fun k e => by cases e).trans (grown_below hg3 HG2.out.size fun k e => by injection e with e; rw [← e, HBX.out]; exact Nat.le_refl _))
          clear hb3 hg3 HB2 HG2
          go_wp2_with (first | ((with_reducible show wpList _ _ _ (Oper.mk _ (Op.load 30 _) _ _ _ _ :: _) _ _); refine wpList_loadS sRin rfl _ rfl bx [.int .i64 rk, .int .i64 rc, .int .i64 rm] rfl HB3.out rfl ?_) | fail)
          refine (valid_ok w3 ⟨rk, rc, rm⟩ HRO.out).mono ?_
          rintro e w6 ⟨rfl, hb6⟩
          have HW6 : Hid (Below wr.heap.size wr w6) := Lib.hid (HW3.out.trans (hb6.mono HW3.out.size))
          have HB6 : Hid (Blk w6 bx [.int .i64 rk, .int .i64 rc, .int .i64 rm]) := Lib.hid (HB3.out.below hb6 HB3.out.lt)
          clear hb6 HW3 HB3
          have HROW : Hid (∀ k, A1.map (·.block) = some k → k < w6.heap.size) := Lib.hid fun k hk => Nat.lt_of_lt_of_le (HRO1.out.lt k hk) HW6.out.size
          have QR : Hid (Row w6 58 5 A1 c1 j XS) := Lib.hid (HRO1.out.below HW6.out)
          have HBS : Hid (Blk w6 S [.slice A0 (prs.map prc0).length c0, .slice A1 j c1, .slice none 0 0]) := Lib.hid (by have h7 := HNM.out.blk; rw [HLJ.out] at h7; exact h7.below HW6.out HNM.out.blk.lt)
          have C1 : Hid (KnowC w6 (A1.map (·.block)) S 1 (.slice A1 j c1)) := knowC (HBS.out.cell rfl) (fun e => (HNM.out.a1 S e.symm).2.1 rfl)
          have BX : Hid (∀ w', w6.grownBy w' (A1.map (·.block)) → w'.cell? ⟨bx, 0, none⟩ = some (.int .i64 rk) ∧ w'.cell? ⟨bx, 1, none⟩ = some (.int .i64 rc) ∧ w'.cell? ⟨bx, 2, none⟩ = some (.int .i64 rm)) := Lib.hid fun w' hg => by
            have hne : A1.map (·.block) ≠ some bx := fun e => by have := HRO1.out.lt bx e; have := HBX.out; omega
            have := HB6.out.grown hg hne
            exact ⟨this.cell rfl, this.cell rfl, this.cell rfl⟩
          have BU : Hid (∀ w, (Instr.build 58 #[(0, .agg #[.int .i64 rk, .int .i64 rc, .int .i64 rm])]).run Try.prog w = .ok (.agg #[.int .i64 rk, .int .i64 rc, .int .i64 rm, .slice none 0 0, .slice none 0 0]) w) := Lib.hid fun w => build_rsc w rk rc rm
          clear HRO
          go_wp2_with fail
          refine region_relL 9 (AppR (A1.map (·.block)) 8) (fun ix9 => ([.is (.pointer (some ⟨S, 0, none⟩)), .is (.pointer (some ⟨S, 0, none⟩)), .is (.pointer (some ⟨S, 0, none⟩)), .is (.pointer (some ⟨S, 1, none⟩)), .is (.slice A1 j c1), .is (.agg #[.int .i64 rk, .int .i64 rc, .int .i64 rm]), .is (.agg ([.int .i64 rk, .int .i64 rc, .int .i64 rm, .slice none 0 0, .slice none 0 0] : List Value).toArray), .pr (BuiltN w6 [.int .i64 rk, .int .i64 rc, .int .i64 rm, .slice none 0 0, .slice none 0 0]), .pr (AppedN w6 58 5 A1 j XS [.int .i64 rk, .int .i64 rc, .int .i64 rm, .slice none 0 0, .slice none 0 0])] : List LD).getD ix9 (.is undef)) [some 59, some 60, some 61, some 62, some 63, some 64, some 65, some 66, some 67] (AppJ w6 (A1.map (·.block)) 8) (fun ii hii => ?_) (AppR.refl _ 8) (by kernel_rfl) (by kernel_rfl) (by kernel_rfl) (by kernel_rfl) rfl (AppJ.start w6 _ 8) (fun ii hii => ?_) ?_
          · match ii, hii with
            | 0, _ => exact LD.keeps_is _ _ _
            | 1, _ => exact LD.keeps_is _ _ _
            | 2, _ => exact LD.keeps_is _ _ _
            | 3, _ => exact LD.keeps_is _ _ _
            | 4, _ => exact LD.keeps_is _ _ _
            | 5, _ => exact LD.keeps_is _ _ _
            | 6, _ => exact LD.keeps_is _ _ _
            | 7, _ => exact keep_builtN 7 _ HROW.out
            | 8, _ => exact keep_appedN _ _ _ _ _ _
            | n + 9, h => exact absurd h (by show ¬ (n + 9 < 9); omega)
          · match ii, hii with
            | 0, _ => exact lstep_first (AppR.refl _ 8) rfl (lwant_none rfl) (AppJ.pure (by decide)) 6 (Or.inl rfl) (by kernel_rfl) (fun _ => rfl)
            | 1, _ => exact lstep_first (AppR.refl _ 8) rfl (lwant_none rfl) (AppJ.pure (by decide)) 6 (Or.inl rfl) (by kernel_rfl) (fun _ => rfl)
            | 2, _ => exact lstep_pure (AppR.refl _ 8) rfl (lwant_none rfl) (AppJ.pure (by decide)) (fun LL aa ww cc => ⟨.pointer (some ⟨S, 0, none⟩), by have e0 : aa.tmps.getD 60 undef = .pointer (some ⟨S, 0, none⟩) := cc.slot 1 60 (by kernel_rfl) rfl; simp only [execOp, Act.eval, e0]; go_simp, rfl⟩)
            | 3, _ => exact lstep_pure (AppR.refl _ 8) rfl (lwant_none rfl) (AppJ.pure (by decide)) (fun LL aa ww cc => ⟨.pointer (some ⟨S, 1, none⟩), by have e0 : aa.tmps.getD 61 undef = .pointer (some ⟨S, 0, none⟩) := cc.slot 2 61 (by kernel_rfl) rfl; simp only [execOp, Act.eval, e0]; go_simp, rfl⟩)
            | 4, _ => exact lstep_pure (AppR.refl _ 8) rfl (lwant_none rfl) (AppJ.pure (by decide)) (fun LL aa ww cc => ⟨.slice A1 j c1, by have e0 : aa.tmps.getD 62 undef = .pointer (some ⟨S, 1, none⟩) := cc.slot 3 62 (by kernel_rfl) rfl; have q := C1.out _ cc.world.1; simp only [execOp, Act.eval, e0]; go_simp, rfl⟩)
            | 5, _ => exact lstep_pure (AppR.refl _ 8) rfl (lwant_none rfl) (AppJ.pure (by decide)) (fun LL aa ww cc => ⟨.agg #[.int .i64 rk, .int .i64 rc, .int .i64 rm], by have e0 : aa.tmps.getD 10 undef = .pointer (some ⟨bx, 0, none⟩) := (cc.orig 10 (by kernel_rfl)).trans rfl; obtain ⟨q0, q1, q2⟩ := BX.out _ cc.world.1; simp only [execOp, Act.eval, e0]; go_simp, rfl⟩)
            | 6, _ => exact lstep_build ((AppR.refl _ 8)) rfl (lwant_none rfl) (AppJ.pure (by decide)) 58 #[(0, .tmp 64)] rfl #[(0, .agg #[.int .i64 rk, .int .i64 rc, .int .i64 rm])] ([.int .i64 rk, .int .i64 rc, .int .i64 rm, .slice none 0 0, .slice none 0 0] : List Value).toArray (fun LL aa ww cc => by have e : aa.tmps.getD 64 undef = .agg #[.int .i64 rk, .int .i64 rc, .int .i64 rm] := cc.slot 5 64 (by kernel_rfl) rfl; simp only [List.map_toArray, List.map_cons, List.map_nil, Act.eval, e]) (fun w => build_rsc w _ _ _) rfl
            | 7, _ => exact lstep_buildN (by decide) rfl (lwant_none rfl) 65 rfl [.int .i64 rk, .int .i64 rc, .int .i64 rm, .slice none 0 0, .slice none 0 0] (fun w => buildS_rsc w _ _ _) (fun LL aa ww cc => cc.slot 6 65 (by kernel_rfl) rfl) rfl
            | 8, _ => exact lstep_appN Try.underlying50 Try.infoRsc rfl (by decide) (by decide) rfl (lwant_none rfl) 63 66 rfl A1 c1 j XS [.int .i64 rk, .int .i64 rc, .int .i64 rm, .slice none 0 0, .slice none 0 0] rfl QR.out rfl rsc_one (by omega) (fun LL aa ww cc => cc.slot 4 63 (by kernel_rfl) rfl) (fun LL aa ww cc => cc.slot 7 66 (by kernel_rfl) rfl) rfl
            | n + 9, h => exact absurd h (by show ¬ (n + 9 < 9); omega)
          · intro L9 VV w5 hall hlen hJ5 hok
            match VV, hlen with
            | [v0, v1, v2, v3, v4, v5, v6, v7, v8], _ =>
              obtain rfl : v0 = .pointer (some ⟨S, 0, none⟩) := hok 0 59 rfl
              obtain rfl : v1 = .pointer (some ⟨S, 0, none⟩) := hok 1 60 rfl
              obtain rfl : v2 = .pointer (some ⟨S, 0, none⟩) := hok 2 61 rfl
              obtain rfl : v3 = .pointer (some ⟨S, 1, none⟩) := hok 3 62 rfl
              obtain rfl : v4 = .slice A1 j c1 := hok 4 63 rfl
              obtain rfl : v5 = .agg #[.int .i64 rk, .int .i64 rc, .int .i64 rm] := hok 5 64 rfl
              obtain rfl : v6 = .agg ([.int .i64 rk, .int .i64 rc, .int .i64 rm, .slice none 0 0, .slice none 0 0] : List Value).toArray := hok 6 65 rfl
              have p7 := hok 7 66 rfl
              have p8 := hok 8 67 rfl
              have p8' : AppedN w6 58 5 A1 j XS [.int .i64 rk, .int .i64 rc, .int .i64 rm, .slice none 0 0, .slice none 0 0] v8 w5 := p8
              obtain ⟨A2, c2, rfl, hrow, hnb⟩ := p8'
              have HG5 : Hid (w6.grownBy w5 (A1.map (·.block))) := Lib.hid hJ5.1
              have HB5 : Hid (Blk w5 S [.slice A0 (prs.map prc0).length c0, .slice A1 j c1, .slice none 0 0]) := Lib.hid (HBS.out.grown hJ5.1 fun e => (HNM.out.a1 S e).2.1 rfl)
              have HR5 := Lib.hid hrow
              have HA2 : Hid (∀ g, A2.map (·.block) = some g → w.heap.size ≤ g ∧ g ≠ S ∧ A0.map (·.block) ≠ some g) := Lib.hid fun g hg => by
                rcases hnb with e | e
                · exact HNM.out.a1 g (e.symm.trans hg)
                · have h7 := e g hg
                  have h8 := HNM.out.blk.lt
                  have h9 := HW6.out.size
                  have h10 := HNM.out.below.size
                  exact ⟨by omega, by omega, fun e2 => by have := HNM.out.po.lt g e2; omega⟩
              have HW5 : Hid (Below w.heap.size w w5) := Lib.hid ((HNM.out.below.trans (HW6.out.mono HNM.out.below.size)).trans (grown_below hJ5.1 (Nat.le_trans HNM.out.below.size HW6.out.size) fun k e => (HNM.out.a1 k e).1))
              have HP5 : Hid (Row w5 54 8 A0 c0 (prs.map prc0).length ((prs.map prc0).map pcells).flatten) := Lib.hid ((HNM.out.po.below HW6.out).kept hJ5.1 (by
                cases hA0 : A0.map (·.block) with
                | none => exact .inl rfl
                | some g => exact .inr fun e => (HNM.out.a1 g e.symm).2.2 hA0))
              clear p7 p8 hrow hnb hJ5 hok hall C1 BX BU QR HROW HBS HB6
              simp only [List.zip_cons_cons, List.zip_nil_right, putsL]
              go_simp
              go_wp2_with ((with_reducible show wpList _ _ _ (Oper.mk _ (Op.store _ _ _) _ _ _ _ :: _) _ _); refine wpList_storeB rfl 50 _ _ rfl S 1 [.slice A0 (prs.map prc0).length c0, .slice A1 j c1, .slice none 0 0] (.slice A2 (j + 1) c2) rfl rfl HB5.out (Nat.succ_lt_succ (Nat.succ_pos 1)) s1Rscs rfl ?_)
              intro w7 hb7 hg7
              have HN7 : Hid (NewM w S A0 A2 c0 c2 (prs.map prc0) ((rs.take (j + 1)).map rsc0) w7) := Lib.hid (by
                rw [HTK.out]
                refine ⟨HW5.out.trans (grown_below hg7 HW5.out.size fun k e => by injection e with e; rw [← e, HSE.out]; exact Nat.le_refl _), ?_, HP5.out.kept hg7 ?_, ?_, by rw [HSE.out]; exact Nat.le_refl _, HNM.out.a0, HA2.out⟩
                · rw [List.length_append, HLJ.out, List.length_map]; exact hb7
                · cases hA0 : A0.map (·.block) with
                  | none => exact .inl rfl
                  | some g => exact .inr fun e => (HNM.out.a0 g hA0).2 (by injection e)
                · rw [List.length_append, HLJ.out, List.map_append, List.flatten_append, ← HXS.out]
                  have h8 := HR5.out.kept hg7 (.inr fun e => (HA2.out S e).2.1 rfl)
                  simpa [rcell0, rcells, rsc0] using h8)
              clear hb7 hg7 HB5 HG5 HR5 HA2 HW5 HP5 HTK HXS
              go_wp2
              go_roundw
              case rel => exact ⟨j + 1, A2, c2, by omega, by go_num, HN7.out⟩
              case measure => simp [intOf]; omega
        · have hjn : j = nr := by omega
          have HRES : Hid (NewRes w (P0 prs rs) (.returned (.tuple #[.pointer (some ⟨S, 0, none⟩), .int .i64 0])) wr) := Lib.hid (by
            have h7 := hnm
            rw [hjn, HNR.out, List.take_length] at h7
            refine h7.done fun x hx => ?_
            obtain ⟨y, _, rfl⟩ := List.mem_map.1 hx
            exact ⟨rfl, rfl⟩)
          subst hjn
          clear hnm HNM HN1
          go_wp2
          go_ret2
          exact HRES.out
end Go.Proofs.Ytgeffkdobnipgaa
