/- pvm: Restore of what Save has given. -/
import Derived.Test.YtlecpekgnlaneaaDoorPvmSave
import Derived.Test.YtlecpekgnlaneaaDoorOctEndN
namespace Go.Proofs.YtlecpekgnlaneaaDoor
open Go.RowKit Nac Nac.Pvm Nac.Crc
/-- a reader that has not failed: what lies ahead of it -/
def RA (w : World) (b : Nat) (A : Option Addr) (c : Nat) (L rest : List UInt8) : Prop := ∃ p, RdM w b A c ⟨L, p, 0⟩ ∧ L.drop p = rest
section
variable {w w' : World} {b c : Nat} {A : Option Addr} {L rest : List UInt8}
theorem RA.grown (h : RA w b A c L rest) {row : Option Nat} (hg : w.grownBy w' row) (hne : ∀ k, row = some k → b < k) : RA w' b A c L rest := by
  obtain ⟨p, h1, h2⟩ := h
  exact ⟨p, h1.grown hg hne, h2⟩
theorem RA.below (h : RA w b A c L rest) {B : Nat} (hb : Below B w w') (hB : b < B) : RA w' b A c L rest := by
  obtain ⟨p, h1, h2⟩ := h
  exact ⟨p, h1.below hb hB, h2⟩
theorem RA.lt (h : RA w b A c L rest) : b < w.heap.size := by
  obtain ⟨p, h1, h2⟩ := h
  exact h1.blk.lt
theorem RA.drew (h : RA w b A c L rest) : RA w.drew b A c L rest := by
  obtain ⟨p, h1, h2⟩ := h
  exact ⟨p, ⟨h1.blk, h1.rb, h1.cap, h1.pos⟩, h2⟩
end
theorem num_at (r : Rdr) (n k : Nat) (rest : List UInt8) (hc : r.code = 0) (h1 : 1 ≤ k) (h8 : k ≤ 8) (hn : n < 256 ^ k) (hd : r.l.drop r.pos = lbs n k ++ rest) : r.num k = (⟨r.l, r.pos + k, 0⟩, n) := by
  have hlen : k ≤ r.left := by
    have := congrArg List.length hd
    simp [lbs_length] at this
    unfold Rdr.left
    omega
  unfold Rdr.num
  rw [if_neg (by omega)]
  unfold Rdr.take
  rw [if_neg (by simpa using hc), if_neg (by simp only [Int.toNat_natCast]; omega)]
  simp only [Int.toNat_natCast, Option.getD_some]
  rw [hd, List.take_left' (lbs_length k n), le_lbs, Nat.mod_eq_of_lt hn, hc]
def RetNumA (w : World) (b : Nat) (A : Option Addr) (c : Nat) (L rest : List UInt8) (n : Nat) (e : Ending) (w' : World) : Prop := e = .returned (.int .u64 (n : Int)) ∧ RA w' b A c L rest ∧ w.grownBy w' (some b)
theorem num_ra (w : World) (b : Nat) (A : Option Addr) (c : Nat) (L rest : List UInt8) (n k : Nat) (h : RA w b A c L (lbs n k ++ rest)) (hL : L.length ≤ 140737488351232) (h1 : 1 ≤ k) (h8 : k ≤ 8) (hn : n < 256 ^ k) :
    Calls Tryd.prog 23 #[.pointer (some ⟨b, 0, none⟩), .int .i64 (k : Int)] w (RetNumA w b A c L rest n) := by
  obtain ⟨p, hm, hd⟩ := h
  have he := num_at ⟨L, p, 0⟩ n k rest rfl h1 h8 hn hd
  refine (num_calls w b A c ⟨L, p, 0⟩ hm hL k).mono ?_
  rintro e w' ⟨rfl, hm', hg⟩
  rw [he] at hm' ⊢
  refine ⟨rfl, ⟨p + k, hm', ?_⟩, hg⟩
  rw [← List.drop_drop, hd]
  exact List.drop_left' (lbs_length k n)
theorem must_true (w : World) (b : Nat) (k : Int) : Calls Tryd.prog 24 #[.pointer (some ⟨b, 0, none⟩), .bool true, .int .i64 k] w fun e w' => e = .returned (.tuple #[]) ∧ w = w' := by
  go_enter Tryd.func24, Tryd.ntmps24
  go_wp2
  first | (go_ret; exact ⟨rfl, rfl⟩) | exact bodyPost_ret (v := .tuple #[]) (by simp [results, Tryd.results24, go_sem]) rfl ⟨rfl, rfl⟩ | skip
/-- the machine while its registers are read -/
def pM (m : Mach) (k : Nat) : Mach := ⟨m.place, m.r.take k ++ List.replicate (8 - k) 0, [], m.state, m.trap⟩
theorem pM_len (m : Mach) (k : Nat) (hl : m.r.length = 8) (hk : k ≤ 8) : (pM m k).r.length = 8 := by simp [pM]; omega
theorem pM_set (m : Mach) (k : Nat) (hl : m.r.length = 8) (hk : k < 8) (hkr : k < m.r.length) : { pM m k with r := (pM m k).r.set k m.r[k] } = pM m (k + 1) := by
  unfold pM
  simp only
  congr 1
  rw [List.set_append_right _ _ (by rw [List.length_take]; omega), List.take_succ_eq_append_getElem hkr, List.append_assoc]
  congr 1
  obtain ⟨d, hd⟩ : ∃ d, 8 - k = d + 1 := ⟨7 - k, by omega⟩
  rw [hd, (by omega : 8 - (k + 1) = d), List.length_take, (by omega : k - min k m.r.length = 0)]
  rfl
def wM (m : Mach) (L : List Int) : Mach := ⟨m.place, m.r, L, m.state, m.trap⟩
def tailR (m : Mach) : List UInt8 := lbs m.mem.length 1 ++ encWs m.mem
def RsRel (w0 : World) (m : Mach) (B5 b : Nat) (A : Option Addr) (c : Nat) (L : List UInt8) (i : Value) (w : World) : Prop :=
  ∃ k : Nat, k ≤ 8 ∧ i = .int .i64 k ∧ Blk w B5 (mcs (pM m k) none 0) ∧ RA w b A c L (encWs (m.r.drop k) ++ tailR m) ∧ Below w0.heap.size w0 w ∧ Blk w w0.heap.size (mcs zM none 0)
def RwRel (w0 : World) (m : Mach) (B5 b g : Nat) (A : Option Addr) (c : Nat) (L : List UInt8) (n : Nat) (i : Value) (w : World) : Prop :=
  ∃ (k : Nat) (M : List Int), k ≤ n ∧ i = .int .i64 k ∧ M.length = n ∧ M.take k = m.mem.take k ∧ Blk w B5 (mcs (wM m M) (some ⟨g, 0, none⟩) n) ∧ OW w (B5 + 1) (some ⟨g, 0, none⟩) n M ∧ RA w b A c L (encWs (m.mem.drop k)) ∧ Below w0.heap.size w0 w ∧ Blk w w0.heap.size (mcs zM none 0)
/-- while a word is read -/
structure WJ (w0 : World) (m : Mach) (B5 b g : Nat) (A : Option Addr) (c : Nat) (L : List UInt8) (n : Nat) (z : Int) (rest : List Int) (M : List Int) (d : Bool) (w : World) : Prop where
  blk : Blk w B5 (mcs (wM m M) (some ⟨g, 0, none⟩) n)
  own : OW w (B5 + 1) (some ⟨g, 0, none⟩) n M
  old : d = false → RA w b A c L (lbs (u64 z) 8 ++ encWs rest)
  new : d = true → RA w b A c L (encWs rest)
  bel : Below w0.heap.size w0 w
  zer : Blk w w0.heap.size (mcs zM none 0)
section
variable {w0 w w' : World} {m : Mach} {B5 b g c n k : Nat} {A : Option Addr} {L : List UInt8} {z : Int} {rest M : List Int} {d : Bool}
theorem WJ.drew (h : WJ w0 m B5 b g A c L n z rest M d w) : WJ w0 m B5 b g A c L n z rest M d w.drew := ⟨h.blk, h.own, fun e => (h.old e).drew, fun e => (h.new e).drew, h.bel.drew, h.zer⟩
theorem WJ.cell9 (h : WJ w0 m B5 b g A c L n z rest M d w) (hl : m.r.length = 8) (hM : M.length = n) : w.cell? ⟨B5, 9, none⟩ = some (.slice (some ⟨g, 0, none⟩) n n) := by
  rw [h.blk.cell (mcs_mem (m := wM m M) hl)]
  show some (Value.slice (some ⟨g, 0, none⟩) M.length n) = _
  rw [hM]
theorem WJ.read (h : WJ w0 m B5 b g A c L n z rest M d w) (hn : b < B5 ∧ B5 < g ∧ w0.heap.size < b) (ha : RA w' b A c L (encWs rest)) (hg : w.grownBy w' (some b)) : WJ w0 m B5 b g A c L n z rest M true w' :=
  ⟨h.blk.grown hg (fun e => by injection e; omega), h.own.kept hg (.inr (by intro e; injection e with e; have e2 : g = b := e; omega)), (fun e => (by cases e)), fun _ => ha, h.bel.grown hg h.bel.size (fun j e => by injection e; omega), h.zer.grown hg (fun e => by injection e; omega)⟩
theorem WJ.freeAt (h : WJ w0 m B5 b g A c L n z rest M d w) (k : Nat) : w.frozen? ⟨g, k, none⟩ = false := World.ownsRow.frozenAt h.own k
theorem WJ.cellAt (h : WJ w0 m B5 b g A c L n z rest M d w) (hk : k < n) (hM : M.length = n) : ∃ y, w.cell? ⟨g, k, none⟩ = some (.int .i64 y) := by
  obtain ⟨g', he, _, _, h1, _⟩ := h.own.at (k := k) (by omega)
  injection he with he
  injection he with he
  subst he
  exact ⟨_, h1⟩
theorem WJ.stored (h : WJ w0 m B5 b g A c L n z (m.mem.drop (k + 1)) M true w) (hn : b < B5 ∧ B5 < g ∧ w0.heap.size < b) (hM : M.length = n) (ht : (M.set k z).take (k + 1) = m.mem.take (k + 1)) (hk : k < n) :
    RwRel w0 m B5 b g A c L n (.int .i64 ((k + 1 : Nat) : Int)) (w.setCell ⟨g, k, none⟩ (.int .i64 z)) := by
  have hg := grown_setCell w ⟨g, k, none⟩ (.int .i64 z)
  refine ⟨k + 1, M.set k z, by omega, rfl, by simpa using hM, ht, ?_, h.own.set k z, (h.new rfl).grown hg (fun j e => by injection e with e; have e' : g = j := e; omega), h.bel.setCell (by show w0.heap.size ≤ g; omega) _, h.zer.grown hg (fun e => by injection e with e; have e' : g = w0.heap.size := e; omega)⟩
  have e : mcs (wM m (M.set k z)) (some ⟨g, 0, none⟩) n = mcs (wM m M) (some ⟨g, 0, none⟩) n := by simp [mcs, wM]
  rw [e]
  exact h.blk.grown hg (fun e => by injection e with e; have e' : g = B5 := e; omega)
end
theorem encWs_cons (l : List Int) (k : Nat) (h : k < l.length) : encWs (l.drop k) = encW l[k] ++ encWs (l.drop (k + 1)) := by
  rw [List.drop_eq_getElem_cons h]; rfl
theorem u64_back (z : Int) (h : (Lit.int .i64 z).wf = true) : IntKind.i64.wrap ((u64 z : Nat) : Int) = z := by
  simp [Lit.wf, IntKind.min, IntKind.max, IntKind.signed, IntKind.bits] at h
  rw [IntKind.wrap_i64]
  unfold u64
  omega
theorem u64_lt (z : Int) : u64 z < 256 ^ 8 := by unfold u64; omega
def RetRest (w : World) (m : Mach) (e : Ending) (w' : World) : Prop := ∃ A c, e = .returned (.tuple #[mv m A c, .nilIface]) ∧ OW w' w.heap.size A c m.mem ∧ Below w.heap.size w w'
theorem may_enc_len {m : Mach} (hl : m.r.length = 8) (hmay : mayM m = true) : (encM m).length ≤ 1000 := by
  obtain ⟨pn, sn, tn, hpn, hsn, htn, hpn2, hsn2, htn2, hmn⟩ := may_nums hmay
  unfold encM encH
  simp [lbs_length, encWs_len, hl]
  omega
set_option maxRecDepth 100000 in
set_option maxHeartbeats 2000000 in
theorem Restore_calls (w : World) (A0 : Option Addr) (c0 : Nat) (m : Mach) (hl : m.r.length = 8) (hmay : mayM m = true) (hr : ∀ z ∈ m.r, (Lit.int .i64 z).wf = true) (hm : ∀ z ∈ m.mem, (Lit.int .i64 z).wf = true) (hb : RB w w.heap.size A0 (encM m)) :
    Calls Tryd.prog 11 #[.slice A0 (encM m).length c0] w (RetRest w m) := by
  have HL := Lib.hid hl
  have HMAY := Lib.hid hmay
  have HFR := Lib.hid hr
  have HFM := Lib.hid hm
  have HRB := Lib.hid hb
  have hel := may_enc_len hl hmay
  obtain ⟨pn, sn, tn, hpn, hsn, htn, hpn2, hsn2, htn2, hmn⟩ := may_nums hmay
  have HENC : Hid (encM m = lbs pn 2 ++ (lbs sn 1 ++ (lbs tn 1 ++ (encWs (m.r.drop 0) ++ tailR m)))) := Lib.hid (by unfold encM encH tailR; rw [hpn, hsn, htn]; simp)
  obtain ⟨E, hE⟩ : ∃ E, E = encM m := ⟨_, rfl⟩
  rw [← hE] at hel HENC HRB ⊢
  obtain ⟨nm, hnm⟩ : ∃ nm, nm = m.mem.length := ⟨_, rfl⟩
  have HNM := Lib.hid hnm
  have HPS := Lib.hid (And.intro hpn (And.intro hsn htn))
  rw [← hnm] at hmn
  have HEL := Lib.hid hel
  clear hl hmay hr hm hb hpn hsn htn hnm hE
  go_enter Tryd.func11, Tryd.ntmps11
  go_wp2_with ((with_reducible show wpList _ _ _ (Oper.mk _ (Op.alloc 35) _ _ _ _ :: _) _ _); refine wpList_allocS _ zMach rfl rfl ?_)
  intro w1 hb1 hg1 hs1
  have HB1 := Lib.hid hb1
  have HW1 : Hid (Below w.heap.size w w1) := Lib.hid (gbelow hg1)
  have HS1 := Lib.hid hs1
  clear hb1 hg1 hs1
  go_wp2_with fail
  refine (read_calls w1 w.heap.size A0 c0 E (HRB.out.below HW1.out) HW1.out.size (by omega)).mono ?_
  rintro e w2 ⟨b, A, c, rfl, hrd, hbb, hb2⟩
  have HA2 : Hid (RA w2 b A c E (lbs pn 2 ++ (lbs sn 1 ++ (lbs tn 1 ++ (encWs (m.r.drop 0) ++ tailR m))))) := Lib.hid ⟨0, hrd, by rw [List.drop_zero]; exact HENC.out⟩
  have HB2 := Lib.hid (HB1.out.below hb2 HB1.out.lt)
  have HW2 : Hid (Below w.heap.size w w2) := Lib.hid (HW1.out.trans (hb2.mono HW1.out.size))
  have HBB : Hid (w.heap.size + 1 ≤ b) := Lib.hid (by rw [← HS1.out]; exact hbb)
  clear hrd hbb hb2 HB1 HW1 HS1
  go_wp2_with fail
  refine (num_ra w2 b A c E _ pn 2 HA2.out (by omega) (by decide) (by decide) (by omega)).mono ?_
  rintro e w3 ⟨rfl, ha3, hg3⟩
  have HA3 := Lib.hid ha3
  have HB3 := Lib.hid (HB2.out.grown hg3 (fun e => by injection e with e; have := HBB.out; omega))
  have HW3 : Hid (Below w.heap.size w w3) := Lib.hid (HW2.out.grown hg3 HW2.out.size (fun j e => by injection e with e; have := HBB.out; omega))
  clear ha3 hg3 HA2 HB2 HW2
  go_wp2_with fail
  refine (num_ra w3 b A c E _ sn 1 HA3.out (by omega) (by decide) (by decide) (by omega)).mono ?_
  rintro e w4 ⟨rfl, ha4, hg4⟩
  have HA4 := Lib.hid ha4
  have HB4 := Lib.hid (HB3.out.grown hg4 (fun e => by injection e with e; have := HBB.out; omega))
  have HW4 : Hid (Below w.heap.size w w4) := Lib.hid (HW3.out.grown hg4 HW3.out.size (fun j e => by injection e with e; have := HBB.out; omega))
  clear ha4 hg4 HA3 HB3 HW3
  go_wp2_with fail
  refine (num_ra w4 b A c E _ tn 1 HA4.out (by omega) (by decide) (by decide) (by omega)).mono ?_
  rintro e w5 ⟨rfl, ha5, hg5⟩
  have HA5 := Lib.hid ha5
  have HB5 := Lib.hid (HB4.out.grown hg5 (fun e => by injection e with e; have := HBB.out; omega))
  have HW5 : Hid (Below w.heap.size w w5) := Lib.hid (HW4.out.grown hg5 HW4.out.size (fun j e => by injection e with e; have := HBB.out; omega))
  clear ha5 hg5 HA4 HB4 HW4
  go_wp2_with ((with_reducible show wpList _ _ _ (Oper.mk _ (Op.alloc 35) _ _ _ _ :: _) _ _); refine wpList_allocS _ zMach rfl rfl ?_)
  intro w6 hb6 hg6 hs6
  obtain ⟨B5, hB5⟩ : ∃ B5, B5 = w5.heap.size := ⟨_, rfl⟩
  rw [← hB5] at hb6 ⊢
  have HB6 := Lib.hid hb6
  have HA6 := Lib.hid (HA5.out.grown hg6 (fun k e => by cases e))
  have HZ6 := Lib.hid (HB5.out.gn hg6)
  have HW6 : Hid (Below w.heap.size w w6) := Lib.hid (HW5.out.trans ((gbelow hg6).mono HW5.out.size))
  have HBB5 : Hid (b < B5) := Lib.hid (by rw [hB5]; exact HA5.out.lt)
  clear hb6 hg6 hs6 hB5 HA5 HB5 HW5
  have e1 : mcs (pM m 0) none 0 = [.int .i64 pn, .int .i64 0, .int .i64 0, .int .i64 0, .int .i64 0, .int .i64 0, .int .i64 0, .int .i64 0, .int .i64 0, .slice none 0 0, .int .i64 sn, .int .i64 tn] := by
    unfold mcs pM
    simp only [HPS.out.1, HPS.out.2.1, HPS.out.2.2]
    rfl
  have HE1 := Lib.hid e1
  clear e1
  go_wp2_with ((with_reducible show wpList _ _ _ (Oper.mk _ (Op.store 35 _ _) _ _ _ _ :: _) _ _); refine wpList_storeS sMach rfl _ _ rfl B5 (mcs zM none 0) (mcs (pM m 0) none 0) rfl (by rw [HE1.out]; rfl) HB6.out rfl rfl (mcs_one _ _ _) ?_)
  intro w7 hb7 hg7
  have H0 : Hid (RsRel w m B5 b A c E (.int .i64 (0 : Nat)) w7) := Lib.hid ⟨0, by omega, rfl, hb7, HA6.out.grown hg7 (fun k e => by injection e with e; have := HBB5.out; omega), HW6.out.grown hg7 HW6.out.size (fun j e => by injection e with e; have := HBB.out; have := HBB5.out; omega), HZ6.out.grown hg7 (fun e => by injection e with e; have := HBB.out; have := HBB5.out; omega)⟩
  clear hb7 hg7 HB6 HA6 HZ6 HW6 HE1
  go_wp2
  go_loopw [21] (fun i wr => RsRel w m B5 b A c E i wr) (fun i _ => 8 - (intOf i).toNat)
  case atStart => exact H0.out
  case round =>
    obtain ⟨k, hk, rfl, hb, ha, hw, hz⟩ := hrel
    have HB := Lib.hid hb
    have HW := Lib.hid hw
    have HZ := Lib.hid hz
    by_cases hlt : k < 8
    · have hkr : k < m.r.length := by rw [HL.out]; exact hlt
      have HPS' := Lib.hid (pM_set m k HL.out hlt hkr)
      have hak : RA wr b A c E (lbs (u64 m.r[k]) 8 ++ (encWs (m.r.drop (k + 1)) ++ tailR m)) := by
        rw [encWs_cons m.r k hkr, List.append_assoc] at ha
        exact ha
      have hwf := HFR.out m.r[k] (List.getElem_mem hkr)
      obtain ⟨z, hz'⟩ : ∃ z, z = m.r[k] := ⟨_, rfl⟩
      rw [← hz'] at hak hwf HPS'
      have HA := Lib.hid hak
      have HUB := Lib.hid (u64_back z hwf)
      clear hb ha hw hz hak hwf hz' hkr H0
      go_wp2_with fail
      refine (num_ra wr b A c E _ (u64 z) 8 HA.out (by omega) (by decide) (by decide) (u64_lt z)).mono ?_
      rintro e w8 ⟨rfl, ha8, hg8⟩
      have HA8 := Lib.hid ha8
      have hb8 := HB.out.grown hg8 (fun e => by injection e with e; have := HBB5.out; omega)
      have c8 : w8.cell? ⟨B5, 1 + k, none⟩ = some (.int .i64 ((pM m k).reg k)) := hb8.cell (mcs_reg (pM_len m k HL.out (by omega)) hlt)
      have f8 := hb8.free (1 + k)
      have hub := HUB.out
      have hk2 : (k : Int) < 8 := by omega
      have HF : Hid (RsRel w m B5 b A c E (.int .i64 ((k + 1 : Nat) : Int)) (w8.setCell ⟨B5, 1 + k, none⟩ (.int .i64 z))) := Lib.hid (by
        have hw8 : Below w.heap.size w w8 := HW.out.grown hg8 HW.out.size (fun j e => by injection e with e; have := HBB.out; omega)
        have hz8 := HZ.out.grown hg8 (fun e => by injection e with e; have := HBB.out; omega)
        refine ⟨k + 1, by omega, rfl, ?_, HA8.out.grown (grown_setCell w8 ⟨B5, 1 + k, none⟩ (.int .i64 z)) (fun j e => by injection e with e; have := HBB5.out; have e' : B5 = j := e; omega), hw8.setCell (by have := HBB.out; have := HBB5.out; show w.heap.size ≤ B5; omega) _, hz8.grown (grown_setCell w8 ⟨B5, 1 + k, none⟩ (.int .i64 z)) (fun e => by injection e with e; have := HBB.out; have := HBB5.out; have e' : B5 = w.heap.size := e; omega)⟩
        have := hb8.setCell (1 + k) (.int .i64 z)
        rw [mcs_setReg (pM_len m k HL.out (by omega)) hlt z, HPS'.out] at this
        exact this)
      clear ha8 hg8 hb8 HA HA8 HB HW HZ HPS' HUB
      go_wp2
      clear hub
      go_roundw
      case rel => exact HF.out
      case measure => simp [intOf]; omega
    · have hk9 : k = 8 := by omega
      subst hk9
      have hp8 : pM m 8 = wM m [] := by
        unfold pM wM
        rw [List.take_of_length_le (by rw [HL.out]; omega)]
        simp
      have HA : Hid (RA wr b A c E (lbs nm 1 ++ encWs (m.mem.drop 0))) := Lib.hid (by
        have := ha
        rw [List.drop_eq_nil_of_le (by rw [HL.out]; omega)] at this
        unfold tailR at this
        rw [← HNM.out] at this
        exact this)
      have HB' : Hid (Blk wr B5 (mcs (wM m []) none 0)) := Lib.hid (by rw [← hp8]; exact HB.out)
      clear hb ha hw hz hp8 hlt hk HB H0
      go_wp2_with fail
      refine (num_ra wr b A c E _ nm 1 HA.out (by omega) (by decide) (by decide) (by omega)).mono ?_
      rintro e w8 ⟨rfl, ha8, hg8⟩
      have HA8 := Lib.hid ha8
      have HB8 := Lib.hid (HB'.out.grown hg8 (fun e => by injection e with e; have := HBB5.out; omega))
      have HW8 : Hid (Below w.heap.size w w8) := Lib.hid (HW.out.grown hg8 HW.out.size (fun j e => by injection e with e; have := HBB.out; omega))
      have HZ8 := Lib.hid (HZ.out.grown hg8 (fun e => by injection e with e; have := HBB.out; omega))
      clear ha8 hg8 HA HB' HW HZ
      go_wp2_with ((with_reducible show wpList _ _ _ (Oper.mk _ (Op.makeSlice _ _ _) _ _ _ _ :: _) _ _); refine wpList_makeN_words w8 rfl _ _ rfl (B5 + 1) _ _ _ nm rfl rfl rfl (by omega) HB8.out.lt ?_)
      intro w9 M HM ho9 hg9
      obtain ⟨g, hg⟩ : ∃ g, g = w8.heap.size := ⟨_, rfl⟩
      rw [← hg] at ho9 ⊢
      have HM9 : Hid (M.length = nm) := Lib.hid (by rw [HM.out]; simp)
      have hb9 := HB8.out.gn hg9
      have c9 : w9.cell? ⟨B5, 9, none⟩ = some (.slice none 0 0) := hb9.cell (mcs_mem (m := wM m []) (A := none) (c := 0) HL.out)
      have f9 := hb9.free 9
      have hset : (mcs (wM m []) none 0).set 9 (.slice (some ⟨g, 0, none⟩) nm nm) = mcs (wM m M) (some ⟨g, 0, none⟩) nm := by
        unfold mcs wM
        simp only
        rw [List.set_cons_succ, List.set_append_right _ _ (by simp [HL.out])]
        simp [HL.out, HM9.out]
      have hgB : B5 < g := by rw [hg]; exact HB8.out.lt
      have H9 : Hid (RwRel w m B5 b g A c E nm (.int .i64 (0 : Nat)) (w9.setCell ⟨B5, 9, none⟩ (.slice (some ⟨g, 0, none⟩) nm nm))) := Lib.hid (by
        refine ⟨0, M, Nat.zero_le _, rfl, HM9.out, by simp, ?_, ?_, (HA8.out.grown hg9 (fun k e => by cases e)).grown (grown_setCell w9 ⟨B5, 9, none⟩ _) (fun j e => by injection e with e; have := HBB5.out; have e' : B5 = j := e; omega), (HW8.out.grown hg9 HW8.out.size (fun j e => by cases e)).setCell (by have := HBB.out; have := HBB5.out; show w.heap.size ≤ B5; omega) _, (HZ8.out.gn hg9).grown (grown_setCell w9 ⟨B5, 9, none⟩ _) (fun e => by injection e with e; have := HBB.out; have := HBB5.out; have e' : B5 = w.heap.size := e; omega)⟩
        · rw [← hset]; exact hb9.setCell 9 _
        · have : OW w9 (B5 + 1) (some ⟨g, 0, none⟩) nm M := ho9
          exact this.other _ _ (fun g' hg' e => by injection hg' with hg'; have e' : g' = B5 := e; have h2 : g = g' := hg'; omega))
      have c9' : (w9.setCell ⟨B5, 9, none⟩ (.slice (some ⟨g, 0, none⟩) nm nm)).cell? ⟨B5, 9, none⟩ = some (.slice (some ⟨g, 0, none⟩) nm nm) := by
        have := hb9.setCell 9 (.slice (some ⟨g, 0, none⟩) nm nm)
        rw [hset] at this
        rw [this.cell (mcs_mem (m := wM m M) HL.out)]
        show some (Value.slice (some ⟨g, 0, none⟩) M.length nm) = _
        rw [HM9.out]
      have HGB := Lib.hid hgB
      clear ho9 hg9 hb9 hset hg HA8 HB8 HW8 HZ8 HM hgB c9'
      go_wp2
      clear c9 f9
      go_loopw [38] (fun i wr => RwRel w m B5 b g A c E nm i wr) (fun i _ => nm - (intOf i).toNat)
      case atStart => exact H9.out
      case round =>
        obtain ⟨k, M, hk, rfl, hML, hMt, hb, ho, ha, hw, hz⟩ := hrel
        have HB := Lib.hid hb
        have HO := Lib.hid ho
        have HW := Lib.hid hw
        have HZ := Lib.hid hz
        have HML := Lib.hid hML
        have HMT := Lib.hid hMt
        by_cases hlt : k < nm
        · have hkr : k < m.mem.length := by rw [← HNM.out]; exact hlt
          have hkM : k < M.length := by rw [hML]; exact hlt
          have hak : RA wr b A c E (lbs (u64 m.mem[k]) 8 ++ encWs (m.mem.drop (k + 1))) := by
            rw [encWs_cons m.mem k hkr] at ha
            exact ha
          have hwf := HFM.out m.mem[k] (List.getElem_mem hkr)
          have hts : (M.set k m.mem[k]).take (k + 1) = m.mem.take (k + 1) := by
            rw [List.take_succ_eq_append_getElem (by simpa using hkM), List.take_succ_eq_append_getElem hkr, List.getElem_set_self, List.take_set_of_le (Nat.le_refl _), hMt]
          obtain ⟨z, hz'⟩ : ∃ z, z = m.mem[k] := ⟨_, rfl⟩
          rw [← hz'] at hak hwf hts
          have HA := Lib.hid hak
          have HTS := Lib.hid hts
          have HUB := Lib.hid (u64_back z hwf)
          have HKM := Lib.hid hkM
          clear hb ho ha hw hz hak hwf hts hz' hkr hML hMt hkM H9
          have CN : Hid (∀ w', RA w' b A c E (lbs (u64 z) 8 ++ encWs (m.mem.drop (k + 1))) → Calls Tryd.prog 23 #[.pointer (some ⟨b, 0, none⟩), .int .i64 8] w' (RetNumA w' b A c E (encWs (m.mem.drop (k + 1))) (u64 z))) := Lib.hid fun w' h => num_ra w' b A c E _ (u64 z) 8 h (by have := HEL.out; omega) (by decide) (by decide) (u64_lt z)
          go_wp2_with fail
          have HJ0 : Hid (WJ w m B5 b g A c E nm z (m.mem.drop (k + 1)) M false wr) := Lib.hid ⟨HB.out, HO.out, fun _ => HA.out, fun e => (by cases e), HW.out, HZ.out⟩
          have HWN : Hid (b < B5 ∧ B5 < g ∧ w.heap.size < b) := Lib.hid ⟨HBB5.out, HGB.out, by have := HBB.out; omega⟩
          have HUB' := HUB
          have hkz : (k : Int) < nm := by omega
          clear HB HO HA HW HZ HUB
          refine region_tail 6 [.pointer (some ⟨B5, 9, none⟩), .slice (some ⟨g, 0, none⟩) nm nm, .int .i64 (k : Int), .pointer (some ⟨b, 0, none⟩), .int .u64 ((u64 z : Nat) : Int), .int .i64 z] [some 41, some 42, some 43, some 44, some 45, some 46] (fun L w' => WJ w m B5 b g A c E nm z (m.mem.drop (k + 1)) M (L 4) w') (by kernel_rfl) (by kernel_rfl) (by kernel_rfl) (by kernel_rfl) rfl rfl HJ0.out.drew (fun ii hii => ?_) ?_
          · match ii, hii with
            | 0, _ => exact vstep_pure rfl (vwant_none rfl) (fun _ _ h => h) (fun LL aa ww cc => ⟨.pointer (some ⟨B5, 9, none⟩), by have e0 : aa.tmps.getD 5 undef = .pointer (some ⟨B5, 0, none⟩) := (cc.orig 5 (by kernel_rfl)).trans rfl; simp only [execOp, Act.eval, e0]; go_simp, rfl⟩)
            | 1, _ => exact vstep_pure rfl (vwant_none rfl) (fun _ _ h => h) (fun LL aa ww cc => ⟨.slice (some ⟨g, 0, none⟩) nm nm, by have e0 : aa.tmps.getD 41 undef = .pointer (some ⟨B5, 9, none⟩) := cc.slot 0 41 (by kernel_rfl) rfl; have q := cc.world.cell9 HL.out HML.out; simp only [execOp, Act.eval, e0]; go_simp, rfl⟩)
            | 2, _ => exact vstep_first rfl (vwant_none rfl) (fun _ _ h => h) 7 (Or.inl rfl) (by kernel_rfl) rfl
            | 3, _ => exact vstep_first rfl (vwant_none rfl) (fun _ _ h => h) 4 (Or.inl rfl) (by kernel_rfl) rfl
            | 4, _ => exact vstep_call rfl (vwant_none rfl) _ _ _ rfl (enters_of Tryd.func23 (by kernel_rfl) rfl) (fun LL aa ww cc => by
                have e0 : aa.tmps.getD 44 undef = .pointer (some ⟨b, 0, none⟩) := cc.slot 3 44 (by kernel_rfl) rfl
                simp only [List.map_toArray, List.map_cons, List.map_nil, Act.eval, e0]
                have hf := cc.fresh
                refine (CN.out ww (cc.world.old hf)).mono ?_
                rintro e w' ⟨rfl, ha, hg⟩
                exact ⟨_, rfl, rfl, cc.world.read HWN.out ha hg⟩)
            | 5, _ => exact vstep_pure rfl (vwant_none rfl) (fun _ _ h => h) (fun LL aa ww cc => ⟨.int .i64 z, by have e0 : aa.tmps.getD 45 undef = .int .u64 ((u64 z : Nat) : Int) := cc.slot 4 45 (by kernel_rfl) rfl; have q := HUB'.out; simp only [execOp, Act.eval, e0]; go_simp, rfl⟩)
            | n + 6, h => exact absurd h (by show ¬ (n + 6 < 6); omega)
          · intro L9 w8 hall hJ
            rw [hall 4 (by decide)] at hJ
            have f8 : w8.frozen? ⟨g, k, none⟩ = false := hJ.freeAt k
            obtain ⟨y8, c8⟩ := hJ.cellAt (k := k) hlt HML.out
            have HJ := Lib.hid hJ
            have HF : Hid (RwRel w m B5 b g A c E nm (.int .i64 ((k + 1 : Nat) : Int)) (w8.setCell ⟨g, k, none⟩ (.int .i64 z))) := Lib.hid (hJ.stored HWN.out HML.out HTS.out hlt)
            clear hJ HJ0 CN hall
            simp only [List.zip_cons_cons, List.zip_nil_right, putsL]
            go_simp
            go_wp2
            go_roundw
            case rel => exact HF.out
            case measure => simp [intOf]; omega
        · have hk9 : k = nm := by omega
          subst hk9
          have hMe : M = m.mem := by
            rw [List.take_of_length_le (by omega), List.take_of_length_le (by rw [← HNM.out]; omega)] at hMt
            exact hMt
          subst hMe
          have hwm : wM m m.mem = m := rfl
          rw [hwm] at HB
          have hdn : m.mem.drop m.mem.length = [] := List.drop_length
          have HA : Hid (RA wr b A c E []) := Lib.hid (by rw [HNM.out, hdn] at ha; exact ha)
          clear hb ho ha hw hz hML hMt hlt hk hwm hdn H9
          go_wp2_with ((with_reducible show wpList _ _ _ (Oper.mk _ (Op.load 35 _) _ _ _ _ :: _) _ _); refine wpList_loadS sMach rfl _ rfl B5 _ rfl HB.out (mcs_len HL.out) ?_)
          refine (May_calls wr _ _ m HL.out (by rw [← HNM.out]; omega)).mono ?_
          rintro e v1 ⟨rfl, hv1⟩
          rw [HMAY.out]
          have HB1 := Lib.hid (HB.out.below hv1 HB.out.lt)
          have HO1 := Lib.hid (HO.out.below hv1 (Nat.le_refl _))
          have HA1 := Lib.hid (HA.out.below hv1 HA.out.lt)
          have HW1 : Hid (Below w.heap.size w v1) := Lib.hid (HW.out.trans (hv1.mono HW.out.size))
          have HZ1 := Lib.hid (HZ.out.below hv1 HZ.out.lt)
          clear hv1 HB HO HA HW HZ
          go_wp2_with fail
          refine (must_true v1 b 3).mono ?_
          rintro e v2 ⟨rfl, rfl⟩
          obtain ⟨p, hrd, hdp⟩ := HA1.out
          have hfin : Rdr.fin ⟨E, p, 0⟩ = none := by
            have : E.length ≤ p := by
              have := congrArg List.length hdp
              simp at this; omega
            unfold Rdr.fin Rdr.left
            rw [if_neg (by simp), if_neg (by show ¬ 0 < E.length - p; omega)]
          have HRD := Lib.hid hrd
          have HFIN := Lib.hid hfin
          clear hrd hfin hdp HA1
          go_wp2_with fail
          refine (end_calls v1 b A c ⟨E, p, 0⟩ HRD.out (by have := HEL.out; show E.length ≤ _; omega)).mono ?_
          rintro e v3 ⟨⟨v, rfl, hv⟩, hv3⟩
          rw [HFIN.out] at hv
          obtain rfl : v = .nilIface := hv
          have HB3 := Lib.hid (HB1.out.below hv3 HB1.out.lt)
          have HO3 := Lib.hid (HO1.out.below hv3 (Nat.le_refl _))
          have HW3 : Hid (Below w.heap.size w v3) := Lib.hid (HW1.out.trans (hv3.mono HW1.out.size))
          have HZ3 := Lib.hid (HZ1.out.below hv3 HZ1.out.lt)
          clear hv3 HB1 HO1 HW1 HZ1 HRD HFIN
          go_wp2_with (first
            | ((with_reducible show wpList _ _ _ (Oper.mk _ (Op.load 35 _) _ _ _ _ :: _) _ _); refine wpList_loadS sMach rfl _ rfl B5 _ rfl HB3.out (mcs_len HL.out) ?_)
            | ((with_reducible show wpList _ _ _ (Oper.mk _ (Op.store 35 _ _) _ _ _ _ :: _) _ _); refine wpList_storeS sMach rfl _ _ rfl w.heap.size (mcs zM none 0) (mcs m (some ⟨g, 0, none⟩) k) rfl rfl HZ3.out rfl (mcs_len HL.out) (mcs_one _ _ _) ?_))
          intro v4 hb4 hg4
          have l1 : Hid ((loadVar 35 ⟨w.heap.size, 0, none⟩).run Tryd.prog v4 = .ok (mv m (some ⟨g, 0, none⟩) k) v4) := Lib.hid (run_loadS sMach _ _ hb4 (mcs_len HL.out))
          have HG4 := Lib.hid hg4
          clear hb4 hg4
          go_wp2
          have q1 := HBB.out
          have q2 := HBB5.out
          have q3 := HGB.out
          refine bodyPost_ret (v := .tuple #[mv m (some ⟨g, 0, none⟩) k, .nilIface]) (by simp [results, Tryd.results11, asAddr, Sem.run_bind, Sem.run_pure, l1.out]) rfl ⟨some ⟨g, 0, none⟩, k, rfl, ?_, HW3.out.grown HG4.out HW3.out.size (fun j e => by injection e with e; omega)⟩
          exact (HO3.out.kept HG4.out (.inr (by intro e; injection e with e; have e2 : g = w.heap.size := e; omega))).base (by omega)
end Go.Proofs.YtlecpekgnlaneaaDoor
