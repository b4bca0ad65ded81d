/- Bundle 13 of the texts PvmRun, PvmNew, ImgLawN, TopAlike. -/
import Derived.Test.YtjfpoahmjgeogaaGreatDoorIc3
import Derived.Test.YtjfpoahmjgeogaaGreatDoorIc12
import Derived.Lib.MinMax
import Derived.RegionTactic
import Derived.Deep.QuietTactic
import Derived.BigQuiet
import Derived.Laws.StructEq
import Derived.ChangeKeysEq
/- pvm: Run. -/
namespace Go.Proofs.YtjfpoahmjgeogaaGreatDoor
open Go.RowKit Nac Nac.Pvm
def RetRun (w : World) (x : (Mach × Int × Int) × Nat) (e : Ending) (w' : World) : Prop :=
  ∃ A c, e = .returned (.tuple #[mv x.1.1 A c, evv x.1.2.1 x.1.2.2, .int .i64 x.2]) ∧ x.1.1.r.length = 8 ∧ OW w' w.heap.size A c x.1.1.mem ∧ Below w.heap.size w w'
structure RJ (w0 : World) (B0 r1 r2 ev : Nat) (A : Option Addr) (c : Nat) (x : Mach × Int × Int) (w : World) : Prop where
  mm : MM w B0 B0 A c x.1
  eb : Blk w ev (ecs x.2.1 x.2.2)
  rb : Blk w r1 (mcs zM none 0)
  sb : Blk w r2 (ecs 0 0)
  bel : Below w0.heap.size w0 w
structure RN (w0 : World) (A : Option Addr) (B0 r1 r2 ev : Nat) : Prop where
  h0 : B0 = w0.heap.size
  h1 : r1 = B0 + 1
  h2 : r2 = B0 + 2
  h3 : B0 + 3 ≤ ev
  ha : ∀ g, A.map (·.block) = some g → B0 + 3 ≤ g ∧ g < ev
theorem RJ.step {w0 w w' : World} {B0 r1 r2 ev : Nat} {A : Option Addr} {c : Nat} {x y : Mach × Int × Int} (h : RJ w0 B0 r1 r2 ev A c x w) (hn : RN w0 A B0 r1 r2 ev) (hm : MM w' B0 B0 A c y.1) (hf : Fr2 B0 A w w') :
    RJ w0 B0 r1 r2 ev A c (y.1, x.2) w' := by
  have := hn.h0
  have := hn.h1
  have := hn.h2
  have := hn.h3
  exact ⟨hm, blk_fr2 h.eb hf (by omega) (fun g hg e => by have := (hn.ha g hg).2; omega), blk_fr2 h.rb hf (by omega) (fun g hg e => by have := (hn.ha g hg).1; omega), blk_fr2 h.sb hf (by omega) (fun g hg e => by have := (hn.ha g hg).1; omega),
    hf.toBelow h.bel h.bel.size (by omega) (fun g hg => by have := (hn.ha g hg).1; omega)⟩
theorem RJ.event {w0 w w' : World} {B0 r1 r2 ev : Nat} {A : Option Addr} {c : Nat} {m : Mach} {e : Int × Int} (h : RJ w0 B0 r1 r2 ev A c (m, e) w) (hn : RN w0 A B0 r1 r2 ev) {k z : Int} (hb : Blk w' ev (ecs k z)) (hg : w.grownBy w' (some ev)) :
    RJ w0 B0 r1 r2 ev A c (m, k, z) w' := by
  have := hn.h0
  have := hn.h1
  have := hn.h2
  have := hn.h3
  have hb0 := h.mm.blk.lt
  exact ⟨h.mm.other hg (by omega) (fun g hg' e => by have := (hn.ha g hg').2; omega), hb, h.rb.grown hg (fun e => by injection e; omega), h.sb.grown hg (fun e => by injection e; omega),
    h.bel.grown hg h.bel.size (fun j e => by injection e with e; omega)⟩
def RunRel (w0 : World) (B0 r1 r2 ev : Nat) (A : Option Addr) (c : Nat) (l : List Ins) (n : Int) (m : Mach) (s : Value) (w : World) : Prop :=
  ∃ (k : Nat) (x : Mach × Int × Int), k ≤ n.toNat ∧ s = .int .i64 k ∧ AtRound l n.toNat (m, 0, 0) x k ∧ x.1.mem.length = m.mem.length ∧ RJ w0 B0 r1 r2 ev A c x w
set_option maxHeartbeats 1000000 in
theorem Run_calls (w : World) (hd : Hdl w) (A : Option Addr) (c : Nat) (m : Mach) (hl : m.r.length = 8) (hmem : RWd w w.heap.size A m.mem) (hm8 : m.mem.length ≤ 17592186044415) (Ac : Option Addr) (cc : Nat) (l : List Ins) (hR : RIn w w.heap.size Ac l) (hl8 : l.length ≤ 140737488351232) (n : Int) (hn : n < 9223372036854775808) :
    Calls Tryz.prog 18 #[.slice Ac l.length cc, mv m A c, .int .i64 n] w (RetRun w (runM l n.toNat (m, 0, 0))) := by
  have HR := Lib.hid hR
  have HD := Lib.hid hd
  have HMW := Lib.hid hmem
  have HL := Lib.hid hl
  clear hR hd hmem hl
  go_enter Tryz.func18, Tryz.ntmps18
  go_wp2_with ((with_reducible show wpList _ _ _ (Oper.mk _ (Op.box _ _) _ _ _ _ :: _) _ _); refine wpList_boxS rfl _ rfl (mcs m A c) rfl ?_)
  intro w1 hb1 hg1 hs1
  have HB1 := Lib.hid hb1
  have HG1 := Lib.hid hg1
  have HS1 := Lib.hid hs1
  clear hb1 hg1 hs1
  go_wp2_with ((with_reducible show wpList _ _ _ (Oper.mk _ (Op.alloc 61) _ _ _ _ :: _) _ _); refine wpList_allocS _ zMach rfl rfl ?_)
  intro w2 hb2 hg2 hs2
  have HB2 := Lib.hid hb2
  have HG2 := Lib.hid hg2
  have HS2 := Lib.hid hs2
  clear hb2 hg2 hs2
  go_wp2_with ((with_reducible show wpList _ _ _ (Oper.mk _ (Op.alloc 63) _ _ _ _ :: _) _ _); refine wpList_allocS _ zEv rfl rfl ?_)
  intro w3 hb3 hg3 hs3
  obtain ⟨B0, hB0⟩ : ∃ B0, B0 = w.heap.size := ⟨_, rfl⟩
  obtain ⟨r1, hr1⟩ : ∃ r1, r1 = w1.heap.size := ⟨_, rfl⟩
  obtain ⟨r2, hr2⟩ : ∃ r2, r2 = w2.heap.size := ⟨_, rfl⟩
  have k1 : r1 = B0 + 1 := by rw [hr1, HS1.out, hB0]
  have k2 : r2 = B0 + 2 := by rw [hr2, HS2.out, ← hr1, k1]
  have k3 : w3.heap.size = B0 + 3 := by rw [hs3, ← hr2, k2]
  have g03 : w.grownBy w3 none := (HG1.out.trans HG2.out).trans hg3
  have HBW : Hid (Below w.heap.size w w3) := Lib.hid (gbelow g03)
  have M3 : Blk w3 B0 (mcs m A c) := by rw [hB0]; exact (HB1.out.gn HG2.out).gn hg3
  have P3 : Blk w3 r1 (mcs zM none 0) := by rw [hr1]; exact HB2.out.gn hg3
  have Q3 : Blk w3 r2 (ecs 0 0) := by rw [hr2]; exact hb3
  rw [← hB0, ← hr1, ← hr2]
  have HB0 := Lib.hid hB0
  clear hb3 hg3 hs3 HB1 HG1 HS1 HB2 HG2 HS2 g03 hr1 hr2 hB0
  have c9 : w3.cell? ⟨B0, 9, none⟩ = some (.slice A m.mem.length c) := M3.cell (mcs_mem HL.out)
  have HM3 := Lib.hid M3
  have HP3 := Lib.hid P3
  have HQ3 := Lib.hid Q3
  have HK := Lib.hid (And.intro k1 (And.intro k2 k3))
  clear M3 P3 Q3 k1 k2 k3
  go_wp2_with fail
  have HRW : Hid (RWd w3 w3.heap.size A m.mem) := Lib.hid ((HMW.out.below HBW.out).mono HBW.out.size)
  refine (clone_calls w3 A c m.mem HRW.out hm8).mono ?_
  rintro e w4 ⟨A', c', rfl, hown, hb4⟩
  obtain ⟨k1, k2, k3⟩ := HK.out
  have hA' : ∀ g, A'.map (·.block) = some g → B0 + 3 ≤ g ∧ g < w4.heap.size := fun g hg => by have := hown.lt g hg; omega
  have h0 := HM3.out.below hb4 HM3.out.lt
  have hP4 := HP3.out.below hb4 HP3.out.lt
  have hQ4 := HQ3.out.below hb4 HQ3.out.lt
  have hown' : OW w4 B0 A' c' m.mem := hown.base (by omega)
  have hbw : Below w.heap.size w w4 := HBW.out.trans (hb4.mono HBW.out.size)
  have c9' : w4.cell? ⟨B0, 9, none⟩ = some (.slice A m.mem.length c) := h0.cell (mcs_mem HL.out)
  have f9 := h0.free 9
  have hm5 : MM (w4.setCell ⟨B0, 9, none⟩ (.slice A' m.mem.length c')) B0 B0 A' c' m := by
    refine ⟨?_, HL.out, hown'.other _ _ (fun g hg e => by have := (hA' g hg).1; have e' : g = B0 := e; omega), fun e => by have := (hA' _ e).1; omega⟩
    have := h0.setCell 9 (.slice A' m.mem.length c')
    have e : (mcs m A c).set 9 (.slice A' m.mem.length c') = mcs m A' c' := by
      unfold mcs
      rw [List.set_cons_succ, List.set_append_right _ _ (by simp [HL.out])]
      simp [HL.out]
    rw [e] at this
    exact this
  have hb5 : Below w.heap.size w (w4.setCell ⟨B0, 9, none⟩ (.slice A' m.mem.length c')) := hbw.setCell (by rw [HB0.out]; exact Nat.le_refl _) _
  have hP5 := hP4.grown (grown_setCell w4 ⟨B0, 9, none⟩ (.slice A' m.mem.length c')) (fun e => by injection e with e; have e' : B0 = r1 := e; omega)
  have hQ5 := hQ4.grown (grown_setCell w4 ⟨B0, 9, none⟩ (.slice A' m.mem.length c')) (fun e => by injection e with e; have e' : B0 = r2 := e; omega)
  have hs5 : w4.heap.size = (w4.setCell ⟨B0, 9, none⟩ (.slice A' m.mem.length c')).heap.size := by simp
  have hs45 := hb4.size
  obtain ⟨w5, hw5⟩ : ∃ w5, w5 = w4.setCell ⟨B0, 9, none⟩ (.slice A' m.mem.length c') := ⟨_, rfl⟩
  rw [← hw5] at hm5 hb5 hP5 hQ5 hs5
  have HS45 : Hid (B0 + 3 ≤ w5.heap.size) := Lib.hid (by omega)
  rw [hs5] at hA'
  have HS5 := Lib.hid hs5
  clear hown hown' hb4 hbw h0 hP4 hQ4 HRW HBW HM3 HP3 HQ3 c9 k1 k2 k3 hs5 hs45
  have HM5 := Lib.hid hm5
  have HB5 := Lib.hid hb5
  have HP5 := Lib.hid hP5
  have HQ5 := Lib.hid hQ5
  have HA := Lib.hid hA'
  clear hm5 hb5 hP5 hQ5 hA'
  go_wp2_with ((with_reducible show wpList _ _ _ (Oper.mk _ (Op.alloc 63) _ _ _ _ :: _) _ _); refine wpList_allocS _ zEv rfl rfl ?_)
  rw [← hw5, HS5.out]
  clear hw5 c9' f9 HS5
  intro w6 hb6 hg6 hs6
  have HB6 := Lib.hid hb6
  have HG6 := Lib.hid hg6
  have HS6 := Lib.hid hs6
  clear hb6 hg6 hs6
  go_wp2_with ((with_reducible show wpList _ _ _ (Oper.mk _ (Op.store 63 _ _) _ _ _ _ :: _) _ _); refine wpList_storeS sEv rfl _ _ rfl w5.heap.size (ecs 0 0) (ecs 0 0) rfl rfl HB6.out rfl rfl (ecs_one _ _) ?_)
  intro w7 hb7 hg7
  have HB7 := Lib.hid hb7
  have HG7 := Lib.hid hg7
  clear hb7 hg7
  obtain ⟨ev, hev⟩ : ∃ ev, ev = w5.heap.size := ⟨_, rfl⟩
  have b57 : Below w5.heap.size w5 w7 := (gbelow HG6.out).grown HG7.out HG6.out.size (fun j e => by injection e with e; omega)
  obtain ⟨k1, k2, k3⟩ := HK.out
  have hs45 := HS45.out
  have hb0 := HB0.out
  have hRJ : RJ w B0 r1 r2 ev A' c' (m, 0, 0) w7 :=
    ⟨HM5.out.below b57, by rw [hev]; exact HB7.out, HP5.out.below b57 HP5.out.lt, HQ5.out.below b57 HQ5.out.lt, HB5.out.trans (b57.mono HB5.out.size)⟩
  have hRN : RN w A' B0 r1 r2 ev := ⟨hb0, k1, k2, by omega, fun g hg => by rw [hev]; exact HA.out g hg⟩
  rw [← hev]
  have HRJ := Lib.hid hRJ
  have HRN := Lib.hid hRN
  clear hRJ hRN hev b57 hs45 hb0 k1 k2 k3 HB7 HG7 HB6 HG6 HS6 HM5 HB5 HP5 HQ5 HA HS45 HK HB0 HMW HL
  go_wp2
  go_loopw [10] (fun s wr => RunRel w B0 r1 r2 ev A' c' l n m s wr) (fun s _ => n.toNat - (intOf s).toNat)
  case atStart => exact ⟨0, (m, 0, 0), Nat.zero_le _, rfl, AtRound.start _ _ _, rfl, HRJ.out⟩
  case round =>
    obtain ⟨k, ⟨x, kd, z⟩, hk, rfl, har, hml, hj⟩ := hrel
    have HJ := Lib.hid hj
    have HAR := Lib.hid har
    have HML := Lib.hid hml
    clear hj har hml HRJ
    have c10 : wr.cell? ⟨B0, 10, none⟩ = some (.int .i64 x.state) := HJ.out.mm.blk.cell (mcs_state HJ.out.mm.len)
    have e0 : wr.cell? ⟨ev, 0, none⟩ = some (.int .i64 kd) := HJ.out.eb.cell rfl
    by_cases hgo : (x.state = 0 ∧ kd = 0) ∧ (k : Int) < n
    · obtain ⟨⟨hx0, hk0⟩, hkn⟩ := hgo
      have hkn' : k < n.toNat := by omega
      have HAR' : Hid (AtRound l n.toNat (m, 0, 0) (stepM l x) (k + 1)) := Lib.hid (HAR.out.next hx0 hk0 hkn')
      rw [hx0] at c10
      rw [hk0] at e0
      clear hx0 hk0 HAR
      go_wp2_with fail
      refine (step_calls wr (HD.out.below HJ.out.bel HD.out.lt) B0 B0 A' c' x HJ.out.mm (by have : x.mem.length = m.mem.length := HML.out; omega) Ac cc l ((HR.out.below HJ.out.bel).mono HJ.out.bel.size) hl8).mono ?_
      rintro e w8 ⟨rfl, hm8, hf8⟩
      have hj8 := HJ.out.step HRN.out hm8 hf8
      have HJ8 := Lib.hid hj8
      have HM' : Hid ((stepM l x).1.mem.length = m.mem.length) := Lib.hid ((stepM_len l x).2.trans HML.out)
      clear hm8 hf8 hj8 HJ HML c10 e0
      obtain ⟨m', k', z', hx⟩ : ∃ m' k' z', stepM l x = (m', k', z') := ⟨_, _, _, rfl⟩
      rw [hx] at HM' HAR' HJ8 ⊢
      clear hx
      simp only at HM' HJ8 ⊢
      go_wp2_with ((with_reducible show wpList _ _ _ (Oper.mk _ (Op.store 63 _ _) _ _ _ _ :: _) _ _); refine wpList_storeS sEv rfl _ _ rfl ev (ecs kd z) (ecs k' z') rfl rfl HJ8.out.eb rfl rfl (ecs_one _ _) ?_)
      intro w9 hb9 hg9
      have HJ9 := Lib.hid (HJ8.out.event HRN.out hb9 hg9)
      clear hb9 hg9 HJ8
      go_wp2
      go_roundw
      case rel => exact ⟨k + 1, (m', k', z'), hkn', by go_num, HAR'.out, HM'.out, HJ9.out⟩
      case measure => simp [intOf]; omega
    · have HX : Hid (runM l n.toNat (m, 0, 0) = ((x, kd, z), k)) := Lib.hid (by
        rcases Classical.em (x.state = 0 ∧ kd = 0) with h | h
        · exact HAR.out.full (by have : ¬ (k : Int) < n := fun h2 => hgo ⟨h, h2⟩; omega)
        · exact HAR.out.stop h)
      obtain ⟨st, hst⟩ : ∃ st, st = x.state := ⟨_, rfl⟩
      obtain ⟨kq, hkq⟩ : ∃ kq, kq = kd := ⟨_, rfl⟩
      rw [← hst] at c10 hgo
      rw [← hkq] at e0 hgo
      clear HAR hst hkq
      have hcase : (st == 0) = false ∨ (st = 0 ∧ (kq == 0) = false) ∨ (st = 0 ∧ kq = 0 ∧ decide ((k : Int) < n) = false) := by
        by_cases h1 : st = 0
        · by_cases h2 : kq = 0
          · right; right; exact ⟨h1, h2, by simpa using fun h3 => hgo ⟨⟨h1, h2⟩, h3⟩⟩
          · right; left; exact ⟨h1, by simpa using h2⟩
        · left; simpa using h1
      clear hgo
      rcases hcase with h | ⟨rfl, h⟩ | ⟨rfl, rfl, h⟩
      all_goals
        go_wp2
        refine region_vals [mv x A' c', evv kd z, .int .i64 k, undef, undef, .int .i64 k] [some 33, some 34, some 35, none, none, some 8] (fun L w' => SJ w w.heap.size B0 x A' c' kd z B0 ev r1 r2 (L 3) (L 4) w') (by kernel_rfl) (by kernel_rfl) (by kernel_rfl) rfl rfl ⟨HJ.out.mm.blk, HJ.out.eb, ⟨_, rfl, HJ.out.rb, fun e => by cases e⟩, ⟨_, rfl, HJ.out.sb, fun e => by cases e⟩, HJ.out.mm.own, HJ.out.bel.drew⟩ (fun ii hii => ?_) ?_
        · have hn : SN A' w.heap.size B0 ev r1 r2 := by
            have h0 := HRN.out.h0
            have h1 := HRN.out.h1
            have h2 := HRN.out.h2
            have h3 := HRN.out.h3
            exact ⟨by omega, by omega, by omega, by omega, by omega, by omega, by omega, fun e => by have := (HRN.out.ha _ e).1; omega, fun e => by have := (HRN.out.ha _ e).1; omega⟩
          have HN := Lib.hid hn
          have HL' : Hid (x.r.length = 8) := Lib.hid HJ.out.mm.len
          match ii, hii with
          | 0, _ => exact vstep_loadS sMach rfl (vwant_none rfl) (fun _ _ h => h) 4 rfl B0 (mcs x A' c') (mcs_len HL'.out) (fun L a w c => (c.orig 4 (by kernel_rfl)).trans rfl) (fun _ _ j => j.mb) rfl
          | 1, _ => exact vstep_loadS sEv rfl (vwant_none rfl) (fun _ _ h => h) 9 rfl ev (ecs kd z) rfl (fun L a w c => (c.orig 9 (by kernel_rfl)).trans rfl) (fun _ _ j => j.eb) rfl
          | 2, _ => exact vstep_first rfl (vwant_none rfl) (fun _ _ h => h) 10 (Or.inl rfl) (by kernel_rfl) rfl
          | 3, _ => exact vstep_storeS sMach rfl (vwant_none rfl) 6 33 rfl r1 (mcs x A' c') (mcs_len HL'.out) (mcs_one _ _ _) (fun L a w c => (c.orig 6 (by kernel_rfl)).trans rfl) (fun L a w c => c.slot 0 33 (by kernel_rfl) rfl) (fun _ _ j => by obtain ⟨cs, h1, h2, _⟩ := j.rb; exact ⟨cs, h1, h2⟩) rfl (fun _ _ _ j hb hg => j.store1 HN.out HL'.out (j.size HN.out) hb hg)
          | 4, _ => exact vstep_storeS sEv rfl (vwant_none rfl) 7 34 rfl r2 (ecs kd z) rfl (ecs_one _ _) (fun L a w c => (c.orig 7 (by kernel_rfl)).trans rfl) (fun L a w c => c.slot 1 34 (by kernel_rfl) rfl) (fun _ _ j => by obtain ⟨cs, h1, h2, _⟩ := j.sb; exact ⟨cs, h1, h2⟩) rfl (fun _ _ _ j hb hg => j.store2 HN.out (j.size HN.out) hb hg)
          | 5, _ => exact vstep_copy rfl (vwant_none rfl) (fun _ _ h => h) 35 (Or.inr rfl) 2 (by kernel_rfl) rfl (fun _ h => h)
          | n + 6, h => exact absurd h (by show ¬ (n + 6 < 6); omega)
        · intro L9 w9 hall hJ
          obtain ⟨cs1, q1, q2, q3⟩ := hJ.rb
          obtain ⟨cs2, p1, p2, p3⟩ := hJ.sb
          obtain rfl := q3 (hall 3 (by decide))
          obtain rfl := p3 (hall 4 (by decide))
          have HJ' := Lib.hid hJ
          have l1 : Hid ((loadVar 61 ⟨r1, 0, none⟩).run Tryz.prog w9 = .ok (mv x A' c') w9) := Lib.hid (run_loadS sMach r1 _ q2 q1)
          have l2 : Hid ((loadVar 63 ⟨r2, 0, none⟩).run Tryz.prog w9 = .ok (evv kd z) w9) := Lib.hid (run_loadS sEv r2 _ p2 p1)
          have HL' : Hid (x.r.length = 8) := Lib.hid HJ.out.mm.len
          have HB := Lib.hid HRN.out.h0
          clear q1 q2 q3 p1 p2 p3 hJ c10 e0
          refine (by assumption : ∀ (a : Act) (w : World), Code.wp _ _ _ a w → _) _ _ ?_
          simp only [List.zip_cons_cons, List.zip_nil_right, putsL]
          go_simp
          go_wp2
          exact bodyPost_ret (v := .tuple #[mv x A' c', evv kd z, .int .i64 k]) (by simp [results, Tryz.results18, asAddr, Sem.run_bind, l1.out, l2.out]) rfl ⟨A', c', by rw [HX.out], by rw [HX.out]; exact HL'.out, by rw [HX.out, ← HB.out]; exact HJ'.out.own, HJ'.out.bel⟩
/- pvm: New, few, short. -/
def RetMach (w : World) (m : Mach) (e : Ending) (w' : World) : Prop :=
  ∃ A c, e = .returned (mv m A c) ∧ m.r.length = 8 ∧ OW w' w.heap.size A c m.mem ∧ Below w.heap.size w w'
def newM (n : Nat) : Mach := ⟨0, [0, 0, 0, 0, 0, 0, 0, 0], List.replicate n 0, 0, 0⟩
def room (words : Int) : Nat := if words ≤ 0 then 0 else if 64 ≤ words then 64 else words.toNat
set_option maxHeartbeats 1000000 in
theorem New_calls (w : World) (words : Int) : Calls Tryz.prog 19 #[.int .i64 words] w (RetMach w (newM (room words))) := by
  go_enter Tryz.func19, Tryz.ntmps19
  go_wp2_with ((with_reducible show wpList _ _ _ (Oper.mk _ (Op.alloc 61) _ _ _ _ :: _) _ _); refine wpList_allocS _ zMach rfl rfl ?_)
  intro w1 hb1 hg1 hs1
  have HB1 := Lib.hid hb1
  have HG1 := Lib.hid hg1
  have HS1 := Lib.hid hs1
  clear hb1 hg1 hs1
  have hn : max 0 (min words 64) = (room words : Int) ∧ room words ≤ 64 := by
    unfold room
    constructor
    · split
      · omega
      · split <;> omega
    · split
      · omega
      · split <;> omega
  obtain ⟨n, hnn⟩ : ∃ n, n = room words := ⟨_, rfl⟩
  rw [← hnn] at hn
  have HN := Lib.hid hn
  have HNN := Lib.hid hnn
  clear hn hnn
  go_wp2_with ((with_reducible show wpList _ _ _ (Oper.mk _ (Op.makeSlice _ _ _) _ _ _ _ :: _) _ _); refine wpList_makeN_words w1 rfl _ _ rfl w.heap.size _ _ _ n rfl rfl HN.out.1 (by have := HN.out.2; omega) HG1.out.size ?_)
  intro w2 L HL ho hg2
  have HO := Lib.hid ho
  have HG2 := Lib.hid hg2
  have HB2 := Lib.hid (HB1.out.gn hg2)
  clear ho hg2 HB1
  have e1 : (mcs (newM n) (some ⟨w1.heap.size, 0, none⟩) n) = [.int .i64 0, .int .i64 0, .int .i64 0, .int .i64 0, .int .i64 0, .int .i64 0, .int .i64 0, .int .i64 0, .int .i64 0, .slice (some ⟨w1.heap.size, 0, none⟩) n n, .int .i64 0, .int .i64 0] := by simp [mcs, newM]
  have HE1 := Lib.hid e1
  clear e1
  go_wp2_with ((with_reducible show wpList _ _ _ (Oper.mk _ (Op.store 61 _ _) _ _ _ _ :: _) _ _); refine wpList_storeS sMach rfl _ _ rfl w.heap.size (mcs zM none 0) (mcs (newM n) (some ⟨w1.heap.size, 0, none⟩) n) rfl (by rw [HE1.out]; rfl) HB2.out rfl rfl (mcs_one _ _ _) ?_)
  intro w3 hb3 hg3
  have l1 : Hid ((loadVar 61 ⟨w.heap.size, 0, none⟩).run Tryz.prog w3 = .ok (mv (newM n) (some ⟨w1.heap.size, 0, none⟩) n) w3) := Lib.hid (run_loadS sMach _ _ hb3 rfl)
  have HG3 := Lib.hid hg3
  clear hb3 hg3
  go_wp2
  have hs1 := HS1.out
  exact bodyPost_ret (v := mv (newM n) (some ⟨w1.heap.size, 0, none⟩) n) (by simp [results, Tryz.results19, asAddr, l1.out]) rfl
    ⟨some ⟨w1.heap.size, 0, none⟩, n, by rw [HNN.out], rfl, by
      rw [← HNN.out]
      have hL : L = List.replicate n 0 := HL.out
      subst hL
      exact HO.out.kept HG3.out (.inr (by intro e; injection e with e; have e2 : w1.heap.size = w.heap.size := e; omega)), ((gbelow HG1.out).grown HG2.out HG1.out.size (fun j e => by cases e)).grown HG3.out (Nat.le_trans HG1.out.size HG2.out.size) (fun j e => by injection e with e; omega)⟩
end Go.Proofs.YtjfpoahmjgeogaaGreatDoor
/- NacelleImages: operations that the walk's end needs. -/
namespace Go.Proofs.YtjfpoahmjgeogaaGreatDoor
open Go.RowKit Nac Nac.Img Nac.Sha Nac.Crc Nac.Pvm
theorem wpList_convW {w : World} {ops : Array Oper} {rest : List Oper} {o : Oper} {a : Act} {Q : Exit → Act → World → Prop} (hw : Region.wanted o (yielded ops a.tmps) = true) (S T : TypeId) (x : Operand) (hop : o.op = .convert S T x) (v u : Value) (hx : a.eval x = u) (hv : (convert S T u).run Tryz.prog w = .ok v w)
    (h : wpList Tryz.prog ops Q rest (a.put o.dst v) w) : wpList Tryz.prog ops Q (o :: rest) a w := by
  unfold wpList
  rw [if_pos hw]
  refine Or.inl ?_
  unfold Oper.wp execOp
  simp only [hop, hx]
  rw [Sem.run_bind, hv]
  exact h
theorem run_neqnil {T e : TypeId} (hu : Tryz.prog.underlying T = some (.slice e)) (p q : Operand) (A : Option Addr) (n c : Nat) (w : World) : (do eqGuard .neq T p q (.slice A n c) (.slice none 0 0); binOp .neq T (.slice A n c) (.slice none 0 0) : Sem Value).run Tryz.prog w = .ok (.bool (!A.isNone)) w := by
  have h : (Op.equal T (.slice A n c) (.slice none 0 0)).run Tryz.prog w = .ok A.isNone w := eqIn_nil hu w 9999 A n c
  simp [eqGuard, binOp, h]
theorem LastR.sub {w : World} {P P' : Nat → Prop} {A : Option Addr} {n c : Nat} {img : Option (List UInt8 × Nat)} (h : LastR w P A n c img) (hp : ∀ g, A.map (·.block) = some g → ¬ P g → ¬ P' g) : LastR w P' A n c img := by
  cases img with
  | none => exact h
  | some x =>
  obtain ⟨h1, h2, h3, h4⟩ := h
  exact ⟨h1, h2, h3, fun g hg => ⟨(h4 g hg).1, hp g hg (h4 g hg).2⟩⟩
section
variable {w : World} {bd bp B bl br bg bs bq ce : Nat} {Ae : Option Addr} {O : Nat → Prop} {s : List (List UInt8)}
theorem LdN.nows (h : LdN w bd O s bp B bl br bg bs bq Ae ce) {g : Nat} (hg : g < B) (ho : ¬ O g) : ¬ WS O bl br bg Ae g := fun e => by
  have hd := h.ld.old
  rcases e with e | rfl | rfl | rfl | e
  · exact ho e
  · omega
  · omega
  · omega
  · have := hd.2.2.2.2.2 g e; omega
theorem LdN.fresh (h : LdN w bd O s bp B bl br bg bs bq Ae ce) (hd : ∀ k, O k → k < w.heap.size) {g : Nat} (hg : w.heap.size ≤ g) : ¬ WS O bl br bg Ae g := fun e => by
  have hl := h.ld.lt
  have hgl := h.ld.log.blk.lt
  rcases e with e | rfl | rfl | rfl | e
  · have := hd g e; omega
  · omega
  · omega
  · omega
  · have := h.ld.log.lt g e; omega
end
theorem runM_lens (l : List Ins) : ∀ (n : Nat) (x : Mach × Int × Int), (runM l n x).1.1.r.length = x.1.r.length ∧ (runM l n x).1.1.mem.length = x.1.mem.length
  | 0, _ => ⟨rfl, rfl⟩
  | n + 1, x => by
    rw [runM]
    split
    · have h1 := runM_lens l n (stepM l x.1)
      have h2 := stepM_len l x.1
      exact ⟨h1.1.trans h2.1, h1.2.trans h2.2⟩
    · exact ⟨rfl, rfl⟩
theorem room_le (z : Int) : room z ≤ 64 := by
  unfold room
  split
  · omega
  split <;> omega
section
variable {P : Program} {ops : Array Oper} {Q : Exit → Act → World → Prop} {D : Nat → VD} {a0 : Act} {W0 : World} {i : Nat} {o : Oper}
theorem mstep_fieldV (ho : ops[i]? = some o) (hw : ∀ a w, MCtx ops D a0 W0 i a w → Region.wanted o (yielded ops a.tmps) = true) (x : Tmp) (s : TypeId) (f : Nat) (hop : o.op = .field s (.tmp x) f)
    (kx : Nat) (hkx : (preds ops 3 i).contains kx = true) (hx : dstOf ops kx = some x) (v r : Value) (hDx : D kx = .is v) (hD : D i = .is r) (hr : ∀ w, (Instr.field s v f).run P w = .ok r w) : MStep P ops Q D a0 W0 i :=
  mstep_one ho hw x kx hkx hx fun a w h => by
    rw [hDx] at h
    have h : a.tmps.getD x undef = v := h
    refine ⟨r, ?_, by rw [hD]; rfl⟩
    simp only [execOp, hop, Act.eval, h]
    rw [Sem.run_bind, hr w]
    rfl
end
theorem opt_parts {α : Type} {o : Option α} {g : α → Nat × Nat} {a b : Nat} (h : o.map g = some (a, b)) : ∃ f, o = some f ∧ (g f).1 = a ∧ (g f).2 = b := by
  cases o with
  | none => cases h
  | some f =>
  injection h with h
  exact ⟨f, rfl, by rw [h], by rw [h]⟩
theorem opt_part {α : Type} {o : Option α} {g : α → Nat} {a : Nat} (h : o.map g = some a) : ∃ f, o = some f ∧ g f = a := by
  cases o with
  | none => cases h
  | some f =>
  injection h with h
  exact ⟨f, rfl, h⟩
theorem fMan : ((Tryz.prog.fieldsOf 47)[3]?).map (fun f => (f.type, f.offset)) = some (45, 3) := by kernel_rfl
theorem uMan : Tryz.prog.underlying 47 = some (.struct (Tryz.prog.fieldsOf 47)) := by kernel_rfl
theorem field_man (w : World) (m : Man) (h : m.sum.length = 32) : (Instr.field 47 (.agg (mcells m).toArray) 3).run Tryz.prog w = .ok (.agg (m.sum.map bv).toArray) w := by
  obtain ⟨f, hf1, h1, h2⟩ := opt_parts fMan
  dsimp only at h1 h2
  have hag : (isAgg 45).run Tryz.prog w = .ok true w := by
    unfold isAgg
    rw [Sem.run_bind, run_underlying uArr32]
    rfl
  obtain ⟨i, hi1, hi2⟩ := opt_part sB32.info
  have hsz : (sizeOf 45).run Tryz.prog w = .ok 32 w := by simp [sizeOf, typeInfo, hi1, hi2]
  have he : List.take 32 (List.drop 3 (mcells m)) = m.sum.map bv := by
    show List.take 32 (m.sum.map bv) = _
    exact List.take_of_length_le (by simp [h])
  unfold Instr.field
  rw [Sem.run_bind, run_underlying uMan]
  simp only [Result.andThen_ok, hf1]
  rw [Sem.run_bind]
  simp only [asAgg, Sem.run_pure, Result.andThen_ok, h1, h2]
  unfold part
  rw [Sem.run_bind, hag]
  simp only [Result.andThen_ok, if_pos]
  rw [Sem.run_bind, hsz]
  simp [he]
end Go.Proofs.YtjfpoahmjgeogaaGreatDoor
/- nacelletop: alike. -/
namespace Go.Proofs.YtjfpoahmjgeogaaGreatDoor
open Go.RowKit Nac Nac.Pvm
theorem uI64 : Tryz.prog.underlying 2 = some (.int .i64) := by kernel_rfl
theorem kI64 : Tryz.prog.plainKey 2 = true := by kernel_rfl
theorem uRegs : Tryz.prog.underlying 58 = some (.array 8 2) := by kernel_rfl
theorem infoI64S : (Tryz.prog.info? 2).isSome = true := by kernel_rfl
theorem cellsI64 : Tryz.prog.cellsOf 2 = 1 := by kernel_rfl
theorem guardRegs : Tryz.prog.eqGuardType Tryz.prog.depth 58 = false := by kernel_rfl
theorem run_itemsI (w : World) (d : Nat) (xs : List Int) : ∀ (is : List Nat), (∀ i ∈ is, i < xs.length) →
    (Op.eqItems (d + 1) 2 1 (xs.map (Value.int .i64)).toArray (xs.map (Value.int .i64)).toArray is).run Tryz.prog w = .ok true w
  | [], _ => by simp [Op.eqItems]
  | i :: is, h => by
    have h1 := h i List.mem_cons_self
    have ih := run_itemsI w d xs is (fun j hj => h j (List.mem_cons_of_mem _ hj))
    have p1 : (part 2 (xs.map (Value.int .i64)).toArray (i * 1)).run Tryz.prog w = .ok (.int .i64 (xs.getD i 0)) w := run_part_plain w kI64 (by simp [h1])
    have p3 : (Op.equalIn (d + 1) 2 (.int .i64 (xs.getD i 0)) (.int .i64 (xs.getD i 0))).run Tryz.prog w = .ok true w := by
      rw [run_equalIn_int w d 2 .i64 .i64 _ _ uI64]
      simp
    simp only [Op.eqItems, Sem.run_bind, p1, p3, Result.andThen_ok]
    simpa using ih
theorem run_neq_regs (w : World) (p q : Operand) (xs : List Int) (h : xs.length = 8) : (do eqGuard .neq 58 p q (.agg (xs.map (Value.int .i64)).toArray) (.agg (xs.map (Value.int .i64)).toArray); binOp .neq 58 (.agg (xs.map (Value.int .i64)).toArray) (.agg (xs.map (Value.int .i64)).toArray) : Sem Value).run Tryz.prog w = .ok (.bool false) w := by
  have h1 : (eqGuard .neq 58 p q (.agg (xs.map (Value.int .i64)).toArray) (.agg (xs.map (Value.int .i64)).toArray)).run Tryz.prog w = .ok () w := by
    simp [eqGuard]
  obtain ⟨i, hi⟩ := Option.isSome_iff_exists.1 infoI64S
  have h2 : (Op.equal 58 (.agg (xs.map (Value.int .i64)).toArray) (.agg (xs.map (Value.int .i64)).toArray)).run Tryz.prog w = .ok true w := by
    unfold Op.equal Op.maxDepth
    rw [run_equalIn_array w 9999 _ _ uRegs hi, cellsI64]
    exact run_itemsI w 9998 xs _ (fun j hj => by simp at hj; omega)
  rw [Sem.run_bind, h1]
  simp [binOp, h2]
def RetTrue (w : World) (e : Ending) (w' : World) : Prop := e = .returned (.bool true) ∧ Below w.heap.size w w'
set_option maxHeartbeats 1000000 in
set_option maxRecDepth 100000 in
theorem alike_calls (w : World) (A A2 : Option Addr) (c c2 : Nat) (m : Mach) (hl : m.r.length = 8) (hA : RWd w w.heap.size A m.mem) (hA2 : RWd w w.heap.size A2 m.mem) (hm8 : m.mem.length ≤ 140737488351232) :
    Calls Tryz.prog 21 #[mv m A c, mv m A2 c2] w (RetTrue w) := by
  have HA := Lib.hid hA
  have HA2 := Lib.hid hA2
  have HL := Lib.hid hl
  clear hA hA2 hl
  go_enter Tryz.func21, Tryz.ntmps21
  go_wp2_with ((with_reducible show wpList _ _ _ (Oper.mk _ (Op.box _ _) _ _ _ _ :: _) _ _); refine wpList_boxS rfl _ rfl (mcs m A c) rfl ?_)
  intro w1 hb1 hg1 hs1
  have HB1 := Lib.hid hb1
  have HG1 := Lib.hid hg1
  have HS1 := Lib.hid hs1
  clear hb1 hg1 hs1
  go_wp2_with ((with_reducible show wpList _ _ _ (Oper.mk _ (Op.box _ _) _ _ _ _ :: _) _ _); refine wpList_boxS rfl _ rfl (mcs m A2 c2) rfl ?_)
  intro w2 hb2 hg2 hs2
  obtain ⟨B0, hB0⟩ : ∃ B0, B0 = w.heap.size := ⟨_, rfl⟩
  obtain ⟨B1, hB1⟩ : ∃ B1, B1 = w1.heap.size := ⟨_, rfl⟩
  have hb12 := HB1.out.gn hg2
  rw [← hB0] at hb12
  rw [← hB1] at hb2
  rw [← hB0, ← hB1]
  have hbw : Below w.heap.size w w2 := gbelow (HG1.out.trans hg2)
  have HBW := Lib.hid hbw
  have HB0 := Lib.hid hb12
  have HB1' := Lib.hid hb2
  clear hg2 hs2 hbw HB1 HG1 HS1 hB0 hB1 hb12 hb2
  obtain ⟨r0, r1, r2, r3, r4, r5, r6, r7, hr⟩ : ∃ r0 r1 r2 r3 r4 r5 r6 r7, m.r = [r0, r1, r2, r3, r4, r5, r6, r7] := by
    obtain ⟨p, r, me, s, t⟩ := m
    have hl := HL.out
    simp only at hl
    match r, hl with
    | [r0, r1, r2, r3, r4, r5, r6, r7], _ => exact ⟨r0, r1, r2, r3, r4, r5, r6, r7, rfl⟩
  obtain ⟨n, hn⟩ : ∃ n, n = m.mem.length := ⟨_, rfl⟩
  have k0 : w2.cell? ⟨B0, 0, none⟩ = some (.int .i64 m.place) := HB0.out.cell rfl
  have k1 : w2.cell? ⟨B0, 1, none⟩ = some (.int .i64 r0) := HB0.out.cell (by unfold mcs; rw [hr]; rfl)
  have k2 : w2.cell? ⟨B0, 2, none⟩ = some (.int .i64 r1) := HB0.out.cell (by unfold mcs; rw [hr]; rfl)
  have k3 : w2.cell? ⟨B0, 3, none⟩ = some (.int .i64 r2) := HB0.out.cell (by unfold mcs; rw [hr]; rfl)
  have k4 : w2.cell? ⟨B0, 4, none⟩ = some (.int .i64 r3) := HB0.out.cell (by unfold mcs; rw [hr]; rfl)
  have k5 : w2.cell? ⟨B0, 5, none⟩ = some (.int .i64 r4) := HB0.out.cell (by unfold mcs; rw [hr]; rfl)
  have k6 : w2.cell? ⟨B0, 6, none⟩ = some (.int .i64 r5) := HB0.out.cell (by unfold mcs; rw [hr]; rfl)
  have k7 : w2.cell? ⟨B0, 7, none⟩ = some (.int .i64 r6) := HB0.out.cell (by unfold mcs; rw [hr]; rfl)
  have k8 : w2.cell? ⟨B0, 8, none⟩ = some (.int .i64 r7) := HB0.out.cell (by unfold mcs; rw [hr]; rfl)
  have k9 : w2.cell? ⟨B0, 9, none⟩ = some (.slice A n c) := by rw [hn]; exact HB0.out.cell (mcs_mem HL.out)
  have k10 : w2.cell? ⟨B0, 10, none⟩ = some (.int .i64 m.state) := HB0.out.cell (mcs_state HL.out)
  have k11 : w2.cell? ⟨B0, 11, none⟩ = some (.int .i64 m.trap) := HB0.out.cell (mcs_trap HL.out)
  have q0 : w2.cell? ⟨B1, 0, none⟩ = some (.int .i64 m.place) := HB1'.out.cell rfl
  have q1 : w2.cell? ⟨B1, 1, none⟩ = some (.int .i64 r0) := HB1'.out.cell (by unfold mcs; rw [hr]; rfl)
  have q2 : w2.cell? ⟨B1, 2, none⟩ = some (.int .i64 r1) := HB1'.out.cell (by unfold mcs; rw [hr]; rfl)
  have q3 : w2.cell? ⟨B1, 3, none⟩ = some (.int .i64 r2) := HB1'.out.cell (by unfold mcs; rw [hr]; rfl)
  have q4 : w2.cell? ⟨B1, 4, none⟩ = some (.int .i64 r3) := HB1'.out.cell (by unfold mcs; rw [hr]; rfl)
  have q5 : w2.cell? ⟨B1, 5, none⟩ = some (.int .i64 r4) := HB1'.out.cell (by unfold mcs; rw [hr]; rfl)
  have q6 : w2.cell? ⟨B1, 6, none⟩ = some (.int .i64 r5) := HB1'.out.cell (by unfold mcs; rw [hr]; rfl)
  have q7 : w2.cell? ⟨B1, 7, none⟩ = some (.int .i64 r6) := HB1'.out.cell (by unfold mcs; rw [hr]; rfl)
  have q8 : w2.cell? ⟨B1, 8, none⟩ = some (.int .i64 r7) := HB1'.out.cell (by unfold mcs; rw [hr]; rfl)
  have q9 : w2.cell? ⟨B1, 9, none⟩ = some (.slice A2 n c2) := by rw [hn]; exact HB1'.out.cell (mcs_mem HL.out)
  have q10 : w2.cell? ⟨B1, 10, none⟩ = some (.int .i64 m.state) := HB1'.out.cell (mcs_state HL.out)
  have q11 : w2.cell? ⟨B1, 11, none⟩ = some (.int .i64 m.trap) := HB1'.out.cell (mcs_trap HL.out)
  have hneq := fun (w : World) (p q : Operand) => run_neq_regs w p q [r0, r1, r2, r3, r4, r5, r6, r7] rfl
  simp only [List.map_cons, List.map_nil] at hneq
  rw [← hn] at hm8
  have HRA := Lib.hid ((HA.out.below HBW.out).mono HBW.out.size)
  have HRB := Lib.hid ((HA2.out.below HBW.out).mono HBW.out.size)
  have HN := Lib.hid hn
  clear hn hr HA HA2
  have HNQ := Lib.hid hneq
  clear hneq
  go_wp2_with ((with_reducible show wpList _ _ _ (Oper.mk _ (Op.binOp BinOp.neq 58 _ _ _) _ _ _ _ :: _) _ _); refine wpList_binV (by rfl) _ _ _ _ _ rfl (.bool false) (HNQ.out _ _ _) ?_)
  clear k0 k1 k2 k3 k4 k5 k6 k7 k8 k10 k11 q0 q1 q2 q3 q4 q5 q6 q7 q8 q10 q11
  go_loopw [5] (fun s5 wr => ∃ (i : Nat), i ≤ n ∧ s5 = .int .i64 i ∧ Hid (∃ N, wr = w2.drewN N)) (fun s5 _ => n - (intOf s5).toNat)
  case atStart => exact ⟨0, Nat.zero_le _, rfl, Lib.hid ⟨0, rfl⟩⟩
  case round =>
    obtain ⟨i, hi, rfl, HW⟩ := hrel
    obtain ⟨N, rfl⟩ := HW.out
    by_cases hlt : i < n
    · have him : i < m.mem.length := by rw [← HN.out]; exact hlt
      obtain ⟨b, o, hA, hb, hc1⟩ := HRA.out.get him
      obtain ⟨b', o', hA', hb', hc2⟩ := HRB.out.get him
      subst hA
      subst hA'
      obtain ⟨v, hv⟩ : ∃ v, v = m.mem[i] := ⟨_, rfl⟩
      rw [← hv] at hc1 hc2
      clear hv him hb hb' HRA HRB
      go_wp2
      go_quiet (fail)
      go_wp2
      go_roundw
      case rel => exact ⟨i + 1, by omega, by go_num, Lib.hid ⟨_, rfl⟩⟩
      case measure => simp [intOf]; omega
    · clear HRA HRB
      go_wp2
      go_ret
      exact ⟨rfl, below_drewN' HBW.out _⟩
end Go.Proofs.YtjfpoahmjgeogaaGreatDoor
