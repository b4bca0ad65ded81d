/- PvmChecked: the walk. -/
import Derived.Test.YtogbhbajnegfeaaDoorPvmAwake
import Derived.Test.YtogbhbajnegfeaaDoorPvmPlain3
namespace Go.Proofs.YtogbhbajnegfeaaDoor
open Go.RowKit Nac Nac.Pvm
theorem errV_none {v : Value} {w : World} {R : Option (Nat × Nat)} (h : ErrV R v w) (hR : R = none) : v = .nilIface := by subst hR; exact h
theorem errV_some {v : Value} {w : World} {R : Option (Nat × Nat)} (h : ErrV R v w) (hR : R ≠ none) : ∃ p, v = .iface 72 p := by
  cases R with
  | none => exact absurd rfl hR
  | some x => obtain ⟨g, hv, _⟩ := h; exact ⟨_, hv⟩
def CkRel (w : World) (l : List Ins) (B7 : Nat) (s : Value) (wr : World) : Prop :=
  ∃ (k : Nat) (m : Mach) (A : Option Addr) (c : Nat), k ≤ 200 ∧ s = .int .i64 k ∧ 0 ≤ m.place ∧ m.place < l.length ∧ m.r.length = 8 ∧ m.mem.length ≤ 64 ∧ Blk wr B7 (mcs m A c) ∧ RWd wr wr.heap.size A m.mem ∧ Below w.heap.size w wr ∧ w.heap.size ≤ B7 ∧ (m.mem ≠ [] → ∀ g, A.map (·.block) = some g → g ≠ B7)
set_option maxHeartbeats 1000000 in
set_option maxRecDepth 100000 in
theorem PvmChecked_calls (w : World) (hd : Hdl w) (Ac : Option Addr) (cc : Nat) (l : List Ins) (hR : RIn w w.heap.size Ac l) (hl8 : l.length ≤ 140737488351232) (words n : Int) :
    Calls Tryd.prog 5 #[.slice Ac l.length cc, .int .i64 words, .int .i64 n] w (RetTrue w) := by
  have HD := Lib.hid hd
  have HR := Lib.hid hR
  clear hd hR
  go_enter Tryd.func5, Tryd.ntmps5
  go_wp2_with fail
  refine (check_calls w Ac cc l HR.out hl8).mono ?_
  rintro e w1 ⟨⟨v, rfl, hv⟩, hb1⟩
  have HB1 := Lib.hid hb1
  clear hb1
  by_cases hck : check l = none
  · obtain rfl := errV_none hv hck
    have HG := Lib.hid (good_of l hck)
    clear hv hck
    go_wp2_with fail
    refine (New_calls w1 words).mono ?_
    rintro e w2 ⟨A, c, rfl, hl, ho, hb⟩
    have HO := Lib.hid ho
    have HB2 : Hid (Below w.heap.size w w2) := Lib.hid (HB1.out.trans (hb.mono HB1.out.size))
    clear ho hb hl
    go_wp2_with ((with_reducible show wpList _ _ _ (Oper.mk _ (Op.alloc 27) _ _ _ _ :: _) _ _); refine wpList_allocS _ zMach rfl rfl ?_)
    intro w3 hb3 hg3 hs3
    obtain ⟨B7, hB7⟩ : ∃ B7, B7 = w2.heap.size := ⟨_, rfl⟩
    rw [← hB7] at hb3 hs3 ⊢
    have HB3 := Lib.hid hb3
    have HG3 := Lib.hid (gbelow hg3)
    have HE7 := Lib.hid hB7
    clear hb3 hg3 hs3 hB7
    go_wp2_with ((with_reducible show wpList _ _ _ (Oper.mk _ (Op.store 27 _ _) _ _ _ _ :: _) _ _); refine wpList_storeS sMach rfl _ _ rfl B7 (mcs zM none 0) (mcs (newM (room words)) A c) rfl rfl HB3.out rfl rfl (mcs_one _ _ _) ?_)
    intro w4 hb4 hg4
    have H0 : Hid (CkRel w l B7 (.int .i64 (0 : Nat)) w4) := Lib.hid (by
      have he := HE7.out
      have hg := HG.out.pos
      have hs := HB2.out.size
      have hne : ∀ g, A.map (·.block) = some g → g ≠ B7 := fun g hg => by have := (HO.out.lt g hg).2; omega
      refine ⟨0, newM (room words), A, c, by omega, rfl, Int.le_refl _, by show (0 : Int) < l.length; omega, rfl, ?_, hb4, ?_, ?_, by omega, fun _ => hne⟩
      · show (List.replicate (room words) 0).length ≤ 64
        rw [List.length_replicate]
        unfold room; split; omega; split <;> omega
      · have h3 := (HO.out.rw.below HG3.out).mono HG3.out.size
        exact (h3.kept hg4 (fun _ => hne)).mono hg4.size
      · exact (HB2.out.trans (HG3.out.mono HB2.out.size)).grown hg4 (Nat.le_trans HB2.out.size HG3.out.size) (fun j e => by injection e with e; omega))
    clear hb4 hg4 HB3 HG3 HE7 HO HB2
    go_wp2
    go_loopw [8] (fun s wr => CkRel w l B7 s wr) (fun s _ => 200 - (intOf s).toNat)
    case atStart => exact H0.out
    case round =>
      obtain ⟨k, m, A, c, hk, rfl, hp0, hp1, hl, hm64, hb, hrd, hbel, hB7, hne⟩ := hrel
      have HB := Lib.hid hb
      have HRD := Lib.hid hrd
      have HBW := Lib.hid hbel
      have HL := Lib.hid hl
      have HP := Lib.hid (And.intro hp0 hp1)
      have HM := Lib.hid hm64
      have HB7 := Lib.hid hB7
      have HNE := Lib.hid hne
      clear hb hrd hbel hl hp0 hp1 hm64 hB7 hne H0
      by_cases hgo : (k : Int) < n ∧ k < 200
      · obtain ⟨h1, h2⟩ := hgo
        go_wp2_with ((with_reducible show wpList _ _ _ (Oper.mk _ (Op.load 27 _) _ _ _ _ :: _) _ _); refine wpList_loadS sMach rfl _ rfl B7 _ rfl HB.out (mcs_len HL.out) ?_)
        refine (Step_calls wr (HD.out.below HBW.out HD.out.lt) A c m HL.out HRD.out (by have := HM.out; omega) Ac cc l ((HR.out.below HBW.out).mono HBW.out.size) hl8).mono ?_
        rintro e w5 ⟨A5, c5, rfl, hl5, ho5, hb5⟩
        have hgs := good_step HG.out m HP.out.1 HP.out.2
        have hml := (stepM_len l m).2
        obtain ⟨m', k', z', hx⟩ : ∃ m' k' z', stepM l m = (m', k', z') := ⟨_, _, _, rfl⟩
        rw [hx] at hgs hml hl5 ho5 ⊢
        simp only at hgs hml hl5 ho5 ⊢
        obtain ⟨g1, g2, g3⟩ := hgs
        have HO5 := Lib.hid ho5
        have HL5 := Lib.hid hl5
        have HM5 : Hid (m'.mem.length ≤ 64) := Lib.hid (by rw [hml]; exact HM.out)
        have HB5 := Lib.hid (HB.out.below hb5 HB.out.lt)
        have HW5 : Hid (Below w.heap.size w w5) := Lib.hid (HBW.out.trans (hb5.mono HBW.out.size))
        have H57 : Hid (B7 < wr.heap.size) := Lib.hid HB.out.lt
        have HS5 : Hid (wr.heap.size ≤ w5.heap.size) := Lib.hid hb5.size
        have HG1 := Lib.hid g1
        have HG2 := Lib.hid g2
        have HG3 := Lib.hid g3
        clear hx ho5 hl5 hml hb5 g1 g2 g3 HB HRD HM HP HNE HBW
        go_wp2_with ((with_reducible show wpList _ _ _ (Oper.mk _ (Op.alloc 27) _ _ _ _ :: _) _ _); refine wpList_allocS _ zMach rfl rfl ?_)
        intro w6 hb6 hg6 hs6
        obtain ⟨B9, hB9⟩ : ∃ B9, B9 = w5.heap.size := ⟨_, rfl⟩
        rw [← hB9] at hb6 hs6 ⊢
        have HB6 := Lib.hid hb6
        have HG6 := Lib.hid (gbelow hg6)
        have HE9 := Lib.hid (And.intro hB9 hs6)
        clear hb6 hg6 hs6 hB9
        go_wp2_with ((with_reducible show wpList _ _ _ (Oper.mk _ (Op.alloc 38) _ _ _ _ :: _) _ _); refine wpList_allocS _ zEv rfl rfl ?_)
        intro w7 hb7 hg7 hs7
        obtain ⟨B10, hB10⟩ : ∃ B10, B10 = w6.heap.size := ⟨_, rfl⟩
        rw [← hB10] at hb7 hs7 ⊢
        have HB7' := Lib.hid hb7
        have HG7 := Lib.hid (gbelow hg7)
        have HB67 := Lib.hid (HB6.out.gn hg7)
        have HE10 := Lib.hid (And.intro hB10 hs7)
        clear hb7 hg7 hs7 hB10
        go_wp2_with ((with_reducible show wpList _ _ _ (Oper.mk _ (Op.store 27 _ _) _ _ _ _ :: _) _ _); refine wpList_storeS sMach rfl _ _ rfl B9 (mcs zM none 0) (mcs m' A5 c5) rfl rfl HB67.out rfl (mcs_len HL5.out) (mcs_one _ _ _) ?_)
        intro w8 hb8 hg8
        have HB8 := Lib.hid hb8
        have HG8 := Lib.hid hg8
        clear hb8 hg8
        have HB78 : Hid (Blk w8 B10 (ecs 0 0)) := Lib.hid (HB7'.out.grown HG8.out (fun e => by injection e with e; have := HE9.out; have := HE10.out; omega))
        go_wp2_with ((with_reducible show wpList _ _ _ (Oper.mk _ (Op.store 38 _ _) _ _ _ _ :: _) _ _); refine wpList_storeS sEv rfl _ _ rfl B10 (ecs 0 0) (ecs k' z') rfl rfl HB78.out rfl rfl (ecs_one _ _) ?_)
        intro w9 hb9 hg9
        obtain ⟨e1, e2⟩ := HE9.out
        obtain ⟨e3, e4⟩ := HE10.out
        have e5 := H57.out
        have e6 := HS5.out
        have HM9 : Hid (Blk w9 B9 (mcs m' A5 c5)) := Lib.hid (HB8.out.grown hg9 (fun e => by injection e; omega))
        have HE9' := Lib.hid hb9
        have b57 : Below w5.heap.size w5 w7 := HG6.out.trans (HG7.out.mono HG6.out.size)
        have b59 : Below w5.heap.size w5 w9 := (b57.grown HG8.out b57.size (fun j e => by injection e; omega)).grown hg9 (Nat.le_trans b57.size HG8.out.size) (fun j e => by injection e; omega)
        have HQ9 : Hid (Blk w9 B7 (mcs m A c)) := Lib.hid (HB5.out.below b59 HB5.out.lt)
        have HO9 := Lib.hid (HO5.out.below b59 (Nat.le_refl _))
        have HW9 : Hid (Below w.heap.size w w9) := Lib.hid (HW5.out.trans (b59.mono HW5.out.size))
        have x0 : w9.cell? ⟨B9, 0, none⟩ = some (.int .i64 m'.place) := HM9.out.cell rfl
        have y0 : w9.cell? ⟨B10, 0, none⟩ = some (.int .i64 k') := HE9'.out.cell rfl
        have y1 : w9.cell? ⟨B10, 1, none⟩ = some (.int .i64 z') := HE9'.out.cell rfl
        have q1 := HG1.out
        have q2 := HG2.out
        have q3 := HG3.out
        obtain ⟨pk, hpk⟩ : ∃ pk, pk = m'.place := ⟨_, rfl⟩
        rw [← hpk] at x0 q1 q2
        have q1' : ¬ pk < 0 := by omega
        have q2' : ¬ (l.length : Int) ≤ pk := by omega
        have HGO : Hid (0 ≤ m'.place ∧ m'.place < l.length) := Lib.hid ⟨HG1.out, HG2.out⟩
        have HSZ : Hid (B7 ≠ B9 ∧ B7 < wr.heap.size) := Lib.hid ⟨by omega, by omega⟩
        clear hb9 hg9 b57 b59 e1 e2 e3 e4 e5 e6 HB8 HG8 HB78 HB7' HG7 HB67 HE10 HE9 HB6 HG6 HB5 HO5 HW5 H57 HS5 HG1 HG2 HG3 hpk
        obtain ⟨kq, hkq⟩ : ∃ kq, kq = k' := ⟨_, rfl⟩
        obtain ⟨zq, hzq⟩ : ∃ zq, zq = z' := ⟨_, rfl⟩
        rw [← hkq] at y0 q3
        rw [← hzq] at y1 q3
        have q4 : (kq == 3) = false ∨ (kq = 3 ∧ zq = 80) ∨ (kq = 3 ∧ zq = 81) := by
          by_cases h : kq = 3
          · rcases q3 h with h2 | h2
            · exact .inr (.inl ⟨h, h2⟩)
            · exact .inr (.inr ⟨h, h2⟩)
          · left; simpa using h
        clear q3 hkq hzq
        rcases q4 with q4 | ⟨rfl, rfl⟩ | ⟨rfl, rfl⟩
        all_goals
          go_wp2_with (first
            | ((with_reducible show wpList _ _ _ (Oper.mk _ (Op.load 27 _) _ _ _ _ :: _) _ _); refine wpList_loadS sMach rfl _ rfl B9 _ rfl HM9.out (mcs_len HL5.out) ?_)
            | ((with_reducible show wpList _ _ _ (Oper.mk _ (Op.store 27 _ _) _ _ _ _ :: _) _ _); refine wpList_storeS sMach rfl _ _ rfl B7 (mcs m A c) (mcs m' A5 c5) rfl rfl HQ9.out (mcs_len HL.out) (mcs_len HL5.out) (mcs_one _ _ _) ?_))
          intro w10 hb10 hg10
          have HF : Hid (CkRel w l B7 (.int .i64 ((k + 1 : Nat) : Int)) w10) := Lib.hid (by
            have hne : ∀ g, A5.map (·.block) = some g → g ≠ B7 := fun g hg => by have := (HO9.out.lt g hg).1; have := HSZ.out.2; omega
            exact ⟨k + 1, m', A5, c5, by omega, rfl, HGO.out.1, HGO.out.2, HL5.out, HM5.out, hb10, (HO9.out.rw.kept hg10 (fun _ => hne)).mono hg10.size, HW9.out.grown hg10 HW9.out.size (fun j e => by injection e with e; have := HB7.out; omega), HB7.out, fun _ => hne⟩)
          clear hb10 hg10 x0 y0 y1 q1 q2 q1' q2'
          go_wp2
          go_roundw
          case rel => exact HF.out
          case measure => simp [intOf]; omega
      · have hstop : decide ((k : Int) < n) = false ∨ ((k : Int) < n ∧ 200 ≤ k) := by
          by_cases h1 : (k : Int) < n
          · right; exact ⟨h1, by omega⟩
          · left; simpa using h1
        clear hgo
        rcases hstop with hs | ⟨hs, hs2⟩
        all_goals
          go_wp2_with fail
          refine (awake_calls wr (HD.out.below HBW.out HD.out.lt)).mono ?_
          rintro e w4 ⟨rfl, hb4⟩
          have HB4 : Hid (Below w.heap.size w w4) := Lib.hid (HBW.out.trans (hb4.mono HBW.out.size))
          clear hb4
          go_wp2
          go_ret
          exact ⟨rfl, HB4.out⟩
  · obtain ⟨p, rfl⟩ := errV_some hv hck
    clear hv hck
    go_wp2_with fail
    refine (awake_calls w1 (HD.out.below HB1.out HD.out.lt)).mono ?_
    rintro e w4 ⟨rfl, hb4⟩
    have HB4 : Hid (Below w.heap.size w w4) := Lib.hid (HB1.out.trans (hb4.mono HB1.out.size))
    clear hb4
    go_wp2
    go_ret
    exact ⟨rfl, HB4.out⟩
end Go.Proofs.YtogbhbajnegfeaaDoor
