/- pvm: Save of a machine that may be. -/
import Derived.Test.YtlecpekgnlaneaaDoorPvmMay
import Derived.Test.YtlecpekgnlaneaaDoorOctPut
import Derived.Test.YtlecpekgnlaneaaDoorStoreB
namespace Nac.Pvm
open Go Go.RowKit Nac.Crc
/-- a 64-bit number's bits -/
def u64 (z : Int) : Nat := (z % 18446744073709551616).toNat
def encW (z : Int) : List UInt8 := lbs (u64 z) 8
def encWs (l : List Int) : List UInt8 := (l.map encW).flatten
def encH (m : Mach) : List UInt8 := (lbs m.place.toNat 2 ++ lbs m.state.toNat 1) ++ lbs m.trap.toNat 1
def encM (m : Mach) : List UInt8 := ((encH m ++ encWs m.r) ++ lbs m.mem.length 1) ++ encWs m.mem
theorem encWs_len (l : List Int) : (encWs l).length = 8 * l.length := by
  induction l with
  | nil => rfl
  | cons x l ih => simp only [encWs, List.map_cons, List.flatten_cons, List.length_append, List.length_cons] at *; rw [ih]; simp [encW, lbs_length]; omega
theorem encWs_take (l : List Int) (k : Nat) (h : k < l.length) : encWs (l.take (k + 1)) = encWs (l.take k) ++ encW l[k] := by
  rw [List.take_succ_eq_append_getElem h, encWs, List.map_append, List.flatten_append]
  simp [encWs]
theorem may_nums {m : Mach} (hm : mayM m = true) : ∃ pn sn tn : Nat, m.place = pn ∧ m.state = sn ∧ m.trap = tn ∧ pn ≤ 65535 ∧ sn ≤ 2 ∧ tn ≤ 83 ∧ m.mem.length ≤ 64 := by
  unfold mayM at hm
  simp only [Bool.and_eq_true, Bool.not_eq_true', Bool.or_eq_false_iff, decide_eq_false_iff_not] at hm
  obtain ⟨⟨⟨h1, h2⟩, h3⟩, h4⟩ := hm
  by_cases hs : m.state = 0 ∨ m.state = 1
  · rw [if_pos hs] at h4
    have h4 : m.trap = 0 := by simpa using h4
    exact ⟨m.place.toNat, m.state.toNat, 0, by omega, by omega, by omega, by omega, by omega, by omega, by omega⟩
  · rw [if_neg hs] at h4
    by_cases hs2 : m.state = 2
    · rw [if_pos hs2] at h4
      have h4 : 80 ≤ m.trap ∧ m.trap ≤ 83 := by simpa using h4
      exact ⟨m.place.toNat, 2, m.trap.toNat, by omega, by omega, by omega, by omega, by omega, by omega, by omega⟩
    · rw [if_neg hs2] at h4; cases h4
theorem wrap_u64 (z : Int) : IntKind.u64.wrap z = (u64 z : Int) := by
  rw [IntKind.wrap_u64]
  unfold u64
  omega
end Nac.Pvm
namespace Go.Proofs.YtlecpekgnlaneaaDoor
open Go.RowKit Nac Nac.Pvm Nac.Crc
def RetPut (w : World) (l : List UInt8) (e : Ending) (w' : World) : Prop := ∃ A c, e = .returned (.slice A l.length c) ∧ OB w' w.heap.size A c l ∧ Below w.heap.size w w'
theorem put_ret (w : World) (n size : Nat) (h1 : 1 ≤ size) (h8 : size ≤ 8) : Calls Tryd.prog 27 #[.int .u64 n, .int .i64 size] w (RetPut w (lbs n size)) :=
  (put_calls w n size h1 h8).mono (by
    rintro e w' ⟨rfl, rfl⟩
    have ho := OB.new w (base := w.heap.size) (Nat.le_refl _) (lbs n size) (by rw [lbs_length]; omega)
    rw [lbs_length] at ho
    exact ⟨_, _, by rw [lbs_length], ho, (Below.refl _ _).alloc (Nat.le_refl _) _⟩)
theorem OB.mono' {w : World} {base base' : Nat} {A : Option Addr} {c : Nat} {l : List UInt8} (h : OB w base A c l) (hb : base' ≤ base) : OB w base' A c l := h.mono hb
theorem run_index_regs (r0 r1 r2 r3 r4 r5 r6 r7 : Int) (k : Nat) (hk : k < 8) (w : World) : (Instr.index 31 (.agg #[.int .i64 r0, .int .i64 r1, .int .i64 r2, .int .i64 r3, .int .i64 r4, .int .i64 r5, .int .i64 r6, .int .i64 r7]) (.int .i64 (k : Int))).run Tryd.prog w = .ok (.int .i64 ([r0, r1, r2, r3, r4, r5, r6, r7].getD k 0)) w := by
  rcases (by omega : k = 0 ∨ k = 1 ∨ k = 2 ∨ k = 3 ∨ k = 4 ∨ k = 5 ∨ k = 6 ∨ k = 7) with rfl | rfl | rfl | rfl | rfl | rfl | rfl | rfl <;> kernel_rfl
def SvRel (w0 : World) (m : Mach) (Am : Option Addr) (cm : Nat) (B0 : Nat) (pre : List UInt8) (l : List Int) (s i : Value) (w : World) : Prop :=
  ∃ (k : Nat) (A : Option Addr) (c : Nat) (L : List UInt8), k ≤ l.length ∧ i = .int .i64 k ∧ s = .slice A L.length c ∧ L = pre ++ encWs (l.take k) ∧ OB w (B0 + 1) A c L ∧ Blk w B0 (mcs m Am cm) ∧ Below w0.heap.size w0 w
set_option maxRecDepth 100000 in
set_option maxHeartbeats 2000000 in
theorem Save_calls (w : World) (Am : Option Addr) (cm : Nat) (m : Mach) (hl : m.r.length = 8) (hmem : RWd w w.heap.size Am m.mem) (hmay : mayM m = true) : Calls Tryd.prog 12 #[mv m Am cm] w (RetPut w (encM m)) := by
  have HL := Lib.hid hl
  have HMM := Lib.hid hmem
  have HMAY := Lib.hid hmay
  obtain ⟨pn, sn, tn, hpn, hsn, htn, hpn2, hsn2, htn2, hmn⟩ := may_nums hmay
  have HENC : Hid (encM m = (((((lbs pn 2 ++ lbs sn 1) ++ lbs tn 1) ++ encWs m.r) ++ lbs m.mem.length 1) ++ encWs m.mem)) := Lib.hid (by unfold encM encH; rw [hpn, hsn, htn]; rfl)
  obtain ⟨r0, r1, r2, r3, r4, r5, r6, r7, hr⟩ : ∃ r0 r1 r2 r3 r4 r5 r6 r7, m.r = [r0, r1, r2, r3, r4, r5, r6, r7] := by
    obtain ⟨p, r, me, s, t⟩ := m
    have hl := HL.out
    simp only at hl
    match r, hl with
    | [r0, r1, r2, r3, r4, r5, r6, r7], _ => exact ⟨r0, r1, r2, r3, r4, r5, r6, r7, rfl⟩
  obtain ⟨nm, hnm⟩ : ∃ nm, nm = m.mem.length := ⟨_, rfl⟩
  have HR := Lib.hid hr
  have HNM := Lib.hid hnm
  have HPS := Lib.hid (And.intro hpn (And.intro hsn htn))
  rw [← hnm] at hmn HENC
  clear hl hmem hmay hr hpn hsn htn hnm
  go_enter Tryd.func12, Tryd.ntmps12
  go_wp2_with ((with_reducible show wpList _ _ _ (Oper.mk _ (Op.box _ _) _ _ _ _ :: _) _ _); refine wpList_boxS rfl _ rfl (mcs m Am cm) rfl ?_)
  intro w1 hb1 hg1 hs1
  obtain ⟨B0, hB0⟩ : ∃ B0, B0 = w.heap.size := ⟨_, rfl⟩
  rw [← hB0] at hb1 hs1 ⊢
  have HB1 := Lib.hid hb1
  have HW1 : Hid (Below w.heap.size w w1) := Lib.hid (gbelow hg1)
  have HS1 := Lib.hid hs1
  have HE0 := Lib.hid hB0
  clear hb1 hg1 hs1 hB0
  go_wp2_with ((with_reducible show wpList _ _ _ (Oper.mk _ (Op.load 35 _) _ _ _ _ :: _) _ _); refine wpList_loadS sMach rfl _ rfl B0 _ rfl HB1.out (mcs_len HL.out) ?_)
  refine (May_calls w1 Am cm m HL.out (by rw [← HNM.out]; omega)).mono ?_
  rintro e w2 ⟨rfl, hb2⟩
  rw [HMAY.out]
  have HB2 := Lib.hid (HB1.out.below hb2 HB1.out.lt)
  have HW2 : Hid (Below w.heap.size w w2) := Lib.hid (HW1.out.trans (hb2.mono HW1.out.size))
  have HZ2 : Hid (B0 + 1 ≤ w2.heap.size) := Lib.hid HB2.out.lt
  have c0 : w2.cell? ⟨B0, 0, none⟩ = some (.int .i64 pn) := by rw [← HPS.out.1]; exact HB2.out.cell rfl
  clear hb2 HB1 HW1 HS1
  go_wp2_with fail
  refine (put_ret w2 pn 2 (by decide) (by decide)).mono ?_
  rintro e w3 ⟨X3, x3, rfl, ho3, hb3⟩
  have HO3 := Lib.hid (ho3.mono (base' := B0 + 1) HZ2.out)
  have HB3 := Lib.hid (HB2.out.below hb3 HB2.out.lt)
  have HW3 : Hid (Below w.heap.size w w3) := Lib.hid (HW2.out.trans (hb3.mono HW2.out.size))
  have c10 : w3.cell? ⟨B0, 10, none⟩ = some (.int .i64 sn) := by rw [← HPS.out.2.1]; exact HB3.out.cell (mcs_state HL.out)
  clear ho3 hb3 HB2 HW2 HZ2 c0
  go_wp2_with fail
  refine (put_ret w3 sn 1 (by decide) (by decide)).mono ?_
  rintro e p4 ⟨Y4, y4, rfl, ho, hb⟩
  have HS := Lib.hid ho
  have HOa := Lib.hid (HO3.out.below hb (Nat.le_refl _))
  have HBa := Lib.hid (HB3.out.below hb HB3.out.lt)
  have HWa : Hid (Below w.heap.size w p4) := Lib.hid (HW3.out.trans (hb.mono HW3.out.size))
  clear ho hb HO3 HB3 HW3
  go_wp2_with (at_builtin; refine wpList_app_bytes _ rfl _ _ rfl (B0 + 1) X3 x3 (lbs pn 2) _ rfl rfl HOa.out Y4 y4 (lbs sn 1) _ rfl rfl HS.out.rb (by simp [lbs_length]) HBa.out.lt ?_)
  intro X4 x4 L4 w4 HL4 ho hg _
  have HO4 := Lib.hid ho
  have HB4 := Lib.hid (HBa.out.grown hg (fun e => by have := (HOa.out.lt B0 e).1; omega))
  have HW4 : Hid (Below w.heap.size w w4) := Lib.hid (below_app HWa.out hg HOa.out HWa.out.size (by have := HE0.out; omega))
  clear ho hg HOa HBa HWa HS
  have c11 : w4.cell? ⟨B0, 11, none⟩ = some (.int .i64 tn) := by rw [← HPS.out.2.2]; exact HB4.out.cell (mcs_trap HL.out)
  have hl4 : L4.length = 3 := by rw [HL4.out]; simp [lbs_length]
  have HN4 := Lib.hid hl4
  clear hl4 c10
  go_wp2_with fail
  refine (put_ret w4 tn 1 (by decide) (by decide)).mono ?_
  rintro e p5 ⟨Y5, y5, rfl, ho, hb⟩
  have HS := Lib.hid ho
  have HOa := Lib.hid (HO4.out.below hb (Nat.le_refl _))
  have HBa := Lib.hid (HB4.out.below hb HB4.out.lt)
  have HWa : Hid (Below w.heap.size w p5) := Lib.hid (HW4.out.trans (hb.mono HW4.out.size))
  clear ho hb HO4 HB4 HW4
  go_wp2_with (at_builtin; refine wpList_app_bytes _ rfl _ _ rfl (B0 + 1) X4 x4 L4 _ rfl rfl HOa.out Y5 y5 (lbs tn 1) _ rfl rfl HS.out.rb (by rw [HN4.out]; simp [lbs_length]) HBa.out.lt ?_)
  intro X5 x5 L5 w5 HL5 ho hg _
  have HO5 := Lib.hid ho
  have HB5 := Lib.hid (HBa.out.grown hg (fun e => by have := (HOa.out.lt B0 e).1; omega))
  have HW5 : Hid (Below w.heap.size w w5) := Lib.hid (below_app HWa.out hg HOa.out HWa.out.size (by have := HE0.out; omega))
  clear ho hg HOa HBa HWa HS
  clear c11
  have HP5 : Hid (L5 = (lbs pn 2 ++ lbs sn 1) ++ lbs tn 1) := Lib.hid (by rw [HL5.out, HL4.out])
  have k1 : w5.cell? ⟨B0, 1, none⟩ = some (.int .i64 r0) := HB5.out.cell (by unfold mcs; rw [HR.out]; rfl)
  have k2 : w5.cell? ⟨B0, 2, none⟩ = some (.int .i64 r1) := HB5.out.cell (by unfold mcs; rw [HR.out]; rfl)
  have k3 : w5.cell? ⟨B0, 3, none⟩ = some (.int .i64 r2) := HB5.out.cell (by unfold mcs; rw [HR.out]; rfl)
  have k4 : w5.cell? ⟨B0, 4, none⟩ = some (.int .i64 r3) := HB5.out.cell (by unfold mcs; rw [HR.out]; rfl)
  have k5 : w5.cell? ⟨B0, 5, none⟩ = some (.int .i64 r4) := HB5.out.cell (by unfold mcs; rw [HR.out]; rfl)
  have k6 : w5.cell? ⟨B0, 6, none⟩ = some (.int .i64 r5) := HB5.out.cell (by unfold mcs; rw [HR.out]; rfl)
  have k7 : w5.cell? ⟨B0, 7, none⟩ = some (.int .i64 r6) := HB5.out.cell (by unfold mcs; rw [HR.out]; rfl)
  have k8 : w5.cell? ⟨B0, 8, none⟩ = some (.int .i64 r7) := HB5.out.cell (by unfold mcs; rw [HR.out]; rfl)
  obtain ⟨pre, hpre⟩ : ∃ pre, pre = L5 := ⟨_, rfl⟩
  have HPRE := Lib.hid hpre
  have H0 : Hid (SvRel w m Am cm B0 pre m.r (.slice X5 L5.length x5) (.int .i64 (0 : Nat)) w5) := Lib.hid ⟨0, X5, x5, L5, Nat.zero_le _, rfl, rfl, by rw [hpre]; simp [encWs], HO5.out, HB5.out, HW5.out⟩
  clear HO5 HB5 HW5 hpre
  go_wp2
  clear k1 k2 k3 k4 k5 k6 k7 k8
  go_loopw [3, 29] (fun s i wr => SvRel w m Am cm B0 pre m.r s i wr) (fun _ i _ => 8 - (intOf i).toNat)
  case atStart => exact H0.out
  case round =>
    obtain ⟨k, A, c, L, hk, rfl, rfl, hL, ho, hb, hw⟩ := hrel
    have HLk := Lib.hid hL
    have HOk := Lib.hid ho
    have HBk := Lib.hid hb
    have HWk := Lib.hid hw
    have hk8 : k ≤ 8 := by rw [HL.out] at hk; exact hk
    have HLL : Hid (L.length ≤ 100) := Lib.hid (by rw [hL, HPRE.out, HP5.out]; simp [lbs_length, encWs_len]; omega)
    clear hL ho hb hw hk H0
    by_cases hlt : k < 8
    · have hkr : k < m.r.length := by rw [HL.out]; exact hlt
      have hidx := run_index_regs r0 r1 r2 r3 r4 r5 r6 r7 k hlt
      have hgd : [r0, r1, r2, r3, r4, r5, r6, r7].getD k 0 = m.r[k] := by simp only [← HR.out]; simp [List.getD, hkr]
      have HST : Hid (encWs (m.r.take (k + 1)) = encWs (m.r.take k) ++ encW m.r[k]) := Lib.hid (encWs_take m.r k hkr)
      obtain ⟨rk, hrk⟩ : ∃ rk, rk = m.r[k] := ⟨_, rfl⟩
      rw [← hrk] at hgd HST
      rw [hgd] at hidx
      have hwr := wrap_u64 rk
      clear hgd hrk hkr
      go_wp2_with fail
      refine (put_ret wr (u64 rk) 8 (by decide) (by decide)).mono ?_
      clear hidx hwr
      rintro e p6 ⟨Y6, y6, rfl, ho, hb⟩
      have HS := Lib.hid ho
      have HOa := Lib.hid (HOk.out.below hb (Nat.le_refl _))
      have HBa := Lib.hid (HBk.out.below hb HBk.out.lt)
      have HWa : Hid (Below w.heap.size w p6) := Lib.hid (HWk.out.trans (hb.mono HWk.out.size))
      clear ho hb HOk HBk HWk
      go_wp2_with (at_builtin; refine wpList_app_bytes _ rfl _ _ rfl (B0 + 1) A c L _ rfl rfl HOa.out Y6 y6 (lbs (u64 rk) 8) _ rfl rfl HS.out.rb (by have := HLL.out; simp [lbs_length]; omega) HBa.out.lt ?_)
      intro X6 x6 L6 w6 HL6 ho hg _
      have HF : Hid (SvRel w m Am cm B0 pre m.r (.slice X6 L6.length x6) (.int .i64 ((k + 1 : Nat) : Int)) w6) := Lib.hid
        ⟨k + 1, X6, x6, L6, by rw [HL.out]; omega, rfl, rfl, by rw [HL6.out, HLk.out, HST.out, List.append_assoc]; rfl, ho, HBa.out.grown hg (fun e => by have := (HOa.out.lt B0 e).1; omega), below_app HWa.out hg HOa.out HWa.out.size (by have := HE0.out; omega)⟩
      clear ho hg HOa HBa HWa HS HL6 HLk HST HLL
      go_wp2
      go_roundw
      case rel => exact HF.out
      case measure => simp [intOf]; omega
    · have hk9 : k = 8 := by omega
      subst hk9
      have HL7 : Hid (L = pre ++ encWs m.r) := Lib.hid (by rw [HLk.out, List.take_of_length_le (by rw [HL.out]; omega)])
      have c9 : wr.cell? ⟨B0, 9, none⟩ = some (.slice Am nm cm) := by rw [HNM.out]; exact HBk.out.cell (mcs_mem HL.out)
      clear HLk hlt hk8
      go_wp2_with fail
      refine (put_ret wr nm 1 (by decide) (by decide)).mono ?_
      rintro e p8 ⟨Y8, y8, rfl, ho, hb⟩
      have HS := Lib.hid ho
      have HOa := Lib.hid (HOk.out.below hb (Nat.le_refl _))
      have HBa := Lib.hid (HBk.out.below hb HBk.out.lt)
      have HWa : Hid (Below w.heap.size w p8) := Lib.hid (HWk.out.trans (hb.mono HWk.out.size))
      clear ho hb HOk HBk HWk c9
      go_wp2_with (at_builtin; refine wpList_app_bytes _ rfl _ _ rfl (B0 + 1) A c L _ rfl rfl HOa.out Y8 y8 (lbs nm 1) _ rfl rfl HS.out.rb (by have := HLL.out; simp [lbs_length]; omega) HBa.out.lt ?_)
      intro X8 x8 L8 w8 HL8 ho hg _
      have HB8 := Lib.hid (HBa.out.grown hg (fun e => by have := (HOa.out.lt B0 e).1; omega))
      have HW8 : Hid (Below w.heap.size w w8) := Lib.hid (below_app HWa.out hg HOa.out HWa.out.size (by have := HE0.out; omega))
      have HP8 : Hid (L8 = (pre ++ encWs m.r) ++ lbs nm 1) := Lib.hid (by rw [HL8.out, HL7.out])
      have c9 : w8.cell? ⟨B0, 9, none⟩ = some (.slice Am nm cm) := by rw [HNM.out]; exact HB8.out.cell (mcs_mem HL.out)
      have H8 : Hid (SvRel w m Am cm B0 L8 m.mem (.slice X8 L8.length x8) (.int .i64 (0 : Nat)) w8) := Lib.hid ⟨0, X8, x8, L8, Nat.zero_le _, rfl, rfl, by simp [encWs], ho, HB8.out, HW8.out⟩
      have HRW : Hid (∀ w', Below w.heap.size w w' → RWd w' w'.heap.size Am m.mem) := Lib.hid fun w' hb => (HMM.out.below hb).mono hb.size
      have HLL8 : Hid (L8.length ≤ 200) := Lib.hid (by have := HLL.out; rw [HP8.out, ← HL7.out]; simp [lbs_length]; omega)
      clear ho hg HOa HBa HWa HS HL8 HB8 HW8 HMM HLL
      obtain ⟨PL, hPL⟩ : ∃ PL, PL = L8 := ⟨_, rfl⟩
      have HPL := Lib.hid hPL
      rw [← hPL] at HLL8
      have H8 : Hid (SvRel w m Am cm B0 PL m.mem (.slice X8 L8.length x8) (.int .i64 (0 : Nat)) w8) := Lib.hid (by rw [hPL]; exact H8.out)
      clear hPL
      go_wp2
      clear c9
      go_loopw [3, 48] (fun s i wr => SvRel w m Am cm B0 PL m.mem s i wr) (fun _ i _ => nm - (intOf i).toNat)
      case atStart => exact H8.out
      case round =>
        obtain ⟨k, A, c, L, hk, rfl, rfl, hL, ho, hb, hw⟩ := hrel
        have HLk := Lib.hid hL
        have HOk := Lib.hid ho
        have HBk := Lib.hid hb
        have HWk := Lib.hid hw
        have hkn : k ≤ nm := by rw [HNM.out]; exact hk
        have HLL : Hid (L.length ≤ 1000) := Lib.hid (by have := HLL8.out; rw [hL]; simp [encWs_len]; omega)
        clear hL ho hb hw hk H8
        by_cases hlt : k < nm
        · have hkr : k < m.mem.length := by rw [← HNM.out]; exact hlt
          obtain ⟨bm, om, hA, hbm, hcm⟩ := (HRW.out wr HWk.out).get hkr
          subst hA
          have HST : Hid (encWs (m.mem.take (k + 1)) = encWs (m.mem.take k) ++ encW m.mem[k]) := Lib.hid (encWs_take m.mem k hkr)
          obtain ⟨rk, hrk⟩ : ∃ rk, rk = m.mem[k] := ⟨_, rfl⟩
          rw [← hrk] at hcm HST
          have hwr := wrap_u64 rk
          clear hrk hkr hbm
          go_wp2_with fail
          refine (put_ret wr (u64 rk) 8 (by decide) (by decide)).mono ?_
          clear hwr hcm
          rintro e p6 ⟨Y6, y6, rfl, ho, hb⟩
          have HS := Lib.hid ho
          have HOa := Lib.hid (HOk.out.below hb (Nat.le_refl _))
          have HBa := Lib.hid (HBk.out.below hb HBk.out.lt)
          have HWa : Hid (Below w.heap.size w p6) := Lib.hid (HWk.out.trans (hb.mono HWk.out.size))
          clear ho hb HOk HBk HWk
          go_wp2_with (at_builtin; refine wpList_app_bytes _ rfl _ _ rfl (B0 + 1) A c L _ rfl rfl HOa.out Y6 y6 (lbs (u64 rk) 8) _ rfl rfl HS.out.rb (by have := HLL.out; simp [lbs_length]; omega) HBa.out.lt ?_)
          intro X6 x6 L6 w6 HL6 ho hg _
          have HF : Hid (SvRel w m (some ⟨bm, om, none⟩) cm B0 PL m.mem (.slice X6 L6.length x6) (.int .i64 ((k + 1 : Nat) : Int)) w6) := Lib.hid
            ⟨k + 1, X6, x6, L6, by rw [← HNM.out]; omega, rfl, rfl, by rw [HL6.out, HLk.out, HST.out, List.append_assoc]; rfl, ho, HBa.out.grown hg (fun e => by have := (HOa.out.lt B0 e).1; omega), below_app HWa.out hg HOa.out HWa.out.size (by have := HE0.out; omega)⟩
          clear ho hg HOa HBa HWa HS HL6 HLk HST HLL
          go_wp2
          go_roundw
          case rel => exact HF.out
          case measure => simp [intOf]; omega
        · have hk9 : k = nm := by omega
          subst hk9
          have HL9 : Hid (L = encM m) := Lib.hid (by
            rw [HENC.out, HLk.out, List.take_of_length_le (by rw [← HNM.out]; omega), HPL.out, HP8.out, HPRE.out, HP5.out])
          clear HLk hlt hkn
          go_wp2
          go_ret
          have hLe : L = encM m := HL9.out
          subst hLe
          exact ⟨A, c, rfl, HOk.out.mono (by have := HE0.out; omega), HWk.out⟩
theorem Save_not (w : World) (Am : Option Addr) (cm : Nat) (m : Mach) (hl : m.r.length = 8) (hm8 : m.mem.length ≤ 140737488351232) (hmay : mayM m = false) : Calls Tryd.prog 12 #[mv m Am cm] w fun e w' => e = .returned (.slice none 0 0) ∧ Below w.heap.size w w' := by
  have HL := Lib.hid hl
  have HMAY := Lib.hid hmay
  clear hl hmay
  go_enter Tryd.func12, Tryd.ntmps12
  go_wp2_with ((with_reducible show wpList _ _ _ (Oper.mk _ (Op.box _ _) _ _ _ _ :: _) _ _); refine wpList_boxS rfl _ rfl (mcs m Am cm) rfl ?_)
  intro w1 hb1 hg1 hs1
  have HB1 := Lib.hid hb1
  have HW1 : Hid (Below w.heap.size w w1) := Lib.hid (gbelow hg1)
  clear hb1 hg1 hs1
  go_wp2_with ((with_reducible show wpList _ _ _ (Oper.mk _ (Op.load 35 _) _ _ _ _ :: _) _ _); refine wpList_loadS sMach rfl _ rfl w.heap.size _ rfl HB1.out (mcs_len HL.out) ?_)
  refine (May_calls w1 Am cm m HL.out hm8).mono ?_
  rintro e w2 ⟨rfl, hb2⟩
  rw [HMAY.out]
  have HW2 : Hid (Below w.heap.size w w2) := Lib.hid (HW1.out.trans (hb2.mono HW1.out.size))
  clear hb2
  go_wp2
  go_ret
  exact ⟨rfl, HW2.out⟩
end Go.Proofs.YtlecpekgnlaneaaDoor
