/- Bundle 8 of the texts ImgC, StoreB, PutRet, ImgD, Rdr, OctRN, OctTakeN, OctEndN, Rel, OctByN, ImgE. -/
import Derived.Test.YtjfpoahmjgeogaaGreatDoorIc7
import Derived.Test.YtjfpoahmjgeogaaGreatDoorIc2
import Derived.OneCell
import Derived.Test.YtjfpoahmjgeogaaGreatDoorIc5
import Derived.Test.YtjfpoahmjgeogaaGreatDoorIc1
import Derived.RegionTactic
import Derived.ChangeAlike
import Derived.Deep.QuietTactic
import Derived.BigQuiet
import Derived.Test.YtjfpoahmjgeogaaGreatDoorIc4
/- image: program, Check, Finish. -/
namespace Nac.Img
def okPF (l : List UInt8) : Bool := decide (l.length % 4 = 0 ∧ Nac.Pvm.check (Nac.Pvm.insOf l) = none)
theorem faultAt_le : ∀ (n : Nat) (l : List Nac.Pvm.Ins) (i : Nat) (f : Nat × Nat), Nac.Pvm.faultAt n l i = some f → f.1 ≤ 10
  | _, [], _, _, h => by cases h
  | n, x :: l, i, f, h => by
    unfold Nac.Pvm.faultAt at h
    split at h
    · injection h with h; subst h; show (_ : Nat) ≤ 10; dsimp only; omega
    split at h
    · injection h with h; subst h; show (_ : Nat) ≤ 10; dsimp only; omega
    · exact faultAt_le n l (i + 1) f h
theorem check_le {l : List Nac.Pvm.Ins} {c k : Nat} (h : Nac.Pvm.check l = some (c, k)) : c ≤ 10 := by
  unfold Nac.Pvm.check at h
  split at h
  · injection h with h; injection h with h1 h2; omega
  · split at h
    · rename_i f hf
      injection h with h
      have := faultAt_le _ _ _ _ hf
      rw [h] at this
      exact this
    · split at h
      · injection h with h; injection h with h1 h2; omega
      · cases h
end Nac.Img
namespace Go.Proofs.YtjfpoahmjgeogaaGreatDoor
open Go.RowKit Nac Nac.Img Nac.Sha Nac.Pvm
def PgV (ok : Bool) (ev : Value) (w' : World) : Prop := (ok = true ∧ ev = .nilIface) ∨ (ok = false ∧ ∃ g c : Nat, ev = flt g ∧ FltB w' g (c : Int) ∧ 1 ≤ c ∧ c ≤ 10)
theorem PgV.below {ok : Bool} {ev : Value} {w w' : World} (h : PgV ok ev w) (hb : Below w.heap.size w w') : PgV ok ev w' := by
  rcases h with h | ⟨h, g, c, h1, h2, h3⟩
  · exact .inl h
  · exact .inr ⟨h, g, c, h1, h2.below hb, h3⟩
def RetPg (w : World) (ok : Bool) (e : Ending) (w' : World) : Prop := ∃ v ev, e = .returned (.tuple #[v, ev]) ∧ PgV ok ev w' ∧ Below w.heap.size w w'
theorem errv_flt {c i : Nat} {v : Value} {w : World} (h : ErrV (some (c, i)) v w) : ∃ g, v = flt g ∧ FltB w g (c : Int) := by
  obtain ⟨g, h1, h2⟩ := h
  exact ⟨g, h1, _, h2⟩
set_option maxRecDepth 100000 in
set_option maxHeartbeats 8000000 in
theorem program_calls (w : World) (hG : Gl w) (m : Man) (h32 : m.sum.length = 32) (A : Option Addr) (n c : Nat) (l : List UInt8) (hn : n = l.length) (hA : RB w w.heap.size A l) (hc : n ≤ c) (hl : n ≤ 1000000) :
    Calls Tryz.prog 46 #[.agg (mcells m).toArray, .slice A n c] w (RetPg w (imgOk shaF okPF m l)) := by
  have HG := Lib.hid hG
  have HA := Lib.hid hA
  have HN := Lib.hid (And.intro hn (And.intro hc hl))
  have H32 := Lib.hid h32
  have HVC : Hid (∀ w, Calls Tryz.prog 60 #[.agg (mcells m).toArray] w (fun e w' => e = .returned (.bool m.okB) ∧ Below w.heap.size w w')) := Lib.hid fun w => valid_calls w m
  have HF : Hid (∀ w (c i : Nat), 1 ≤ c → Calls Tryz.prog 30 #[.int .i64 (c : Int), .int .i64 (i : Int)] w (RetErr w (some (c, i)))) := Lib.hid fun w c i hc => fault_new w c i hc
  obtain ⟨ms, hms⟩ : ∃ ms, ms = mcells m := ⟨_, rfl⟩
  have HMS := Lib.hid hms
  have HM35 : Hid (ms.length = 35) := Lib.hid (by rw [hms, mcells_len m h32])
  rw [← hms] at HVC ⊢
  have HM2 : Hid (ms[2]? = some (.int .i64 m.size)) := Lib.hid (by rw [hms]; rfl)
  have HM1 : Hid (ms[1]? = some (.int .u32 (m.ver : Int))) := Lib.hid (by rw [hms]; rfl)
  have q0 : (n : Int) ≤ 1000000 := by omega
  clear hms hG hA hn hc hl h32
  go_enter Tryz.func46, Tryz.ntmps46
  go_wp2_with (((with_reducible show wpList _ _ _ (Oper.mk _ (Op.box 47 _) _ _ _ _ :: _) _ _); refine wpList_boxS rfl _ rfl ms (by rfl) ?_))
  intro w1 hb1 hg1 hs1
  obtain ⟨b2, hB2⟩ : ∃ b2, b2 = w.heap.size := ⟨_, rfl⟩
  rw [← hB2] at hb1 ⊢
  have HB1 := Lib.hid hb1
  have HE1 : Hid (Below w.heap.size w w1) := Lib.hid (gbelow hg1)
  clear hb1 hg1 hs1 hB2
  go_wp2_with (((with_reducible show wpList _ _ _ (Oper.mk _ (Op.load 47 _) _ _ _ _ :: _) _ _); refine wpList_loadS sMan rfl _ rfl b2 ms rfl HB1.out HM35.out ?_))
  go_at_call 60
  with_reducible refine (HVC.out w1).mono ?_
  rintro e w2 ⟨rfl, hb2⟩
  have HB2 : Hid (Blk w2 b2 ms) := Lib.hid (HB1.out.below hb2 HB1.out.lt)
  have HE2 : Hid (Below w.heap.size w w2) := Lib.hid (HE1.out.trans (hb2.mono HE1.out.size))
  have k2 : w2.cell? ⟨b2, 2, none⟩ = some (.int .i64 m.size) := HB2.out.cell HM2.out
  clear hb2 HB1 HE1 HVC
  have HFAIL : Hid (∀ (w3 : World) (v : Value) (g c : Nat), imgOk shaF okPF m l = false → FltB w3 g (c : Int) → 1 ≤ c → c ≤ 10 → Below w.heap.size w w3 → RetPg w (imgOk shaF okPF m l) (.returned (.tuple #[v, flt g])) w3) := Lib.hid fun w3 v g c h1 h2 h3 h4 h5 => ⟨v, flt g, rfl, .inr ⟨h1, g, c, rfl, h2, h3, h4⟩, h5⟩
  cases hok : m.okB with
  | false =>
    have HI : Hid (imgOk shaF okPF m l = false) := Lib.hid (by unfold imgOk; rw [hok]; simp)
    have HFX : Hid (Calls Tryz.prog 30 #[.int .i64 1, .int .i64 0] w2 (RetErr w2 (some (1, 0)))) := Lib.hid (HF.out w2 1 0 (by decide))
    clear hok k2 HF
    go_wp2_with fail
    go_at_call 30
    with_reducible refine HFX.out.mono ?_
    rintro e w3 ⟨⟨v, rfl, hv⟩, hb3⟩
    obtain ⟨g, rfl, hfl⟩ := errv_flt hv
    have HR := Lib.hid (HFAIL.out w3 (.slice none 0 0) g 1 HI.out hfl (by decide) (by decide) (HE2.out.trans (hb3.mono HE2.out.size)))
    clear hv hb3 hfl HFX HFAIL
    go_wp2_with fail
    go_ret2
    exact HR.out
  | true =>
  obtain ⟨sz, hsz⟩ : ∃ sz : Nat, m.size = (sz : Int) := by
    have : 0 ≤ m.part ∧ m.part < 8 ∧ 4 ≤ m.size ∧ m.size ≤ 512 ∧ m.size % 4 = 0 := of_decide_eq_true hok
    obtain ⟨s, hs⟩ := Int.eq_ofNat_of_zero_le (by omega : 0 ≤ m.size)
    exact ⟨s, hs⟩
  have HOK : Hid (m.okB = true ∧ m.size = (sz : Int)) := Lib.hid ⟨hok, hsz⟩
  rw [hsz] at k2
  clear hok hsz
  by_cases q1 : (n : Int) < (sz : Int)
  · have HI : Hid (imgOk shaF okPF m l = false) := Lib.hid (by
      have e : decide ((l.length : Int) = m.size) = false := decide_eq_false (by rw [HOK.out.2, ← HN.out.1]; omega)
      unfold imgOk; rw [e]; simp)
    have HFX : Hid (Calls Tryz.prog 30 #[.int .i64 2, .int .i64 (n : Int)] w2 (RetErr w2 (some (2, n)))) := Lib.hid (HF.out w2 2 n (by decide))
    clear HF
    go_wp2_with fail
    go_at_call 30
    with_reducible refine HFX.out.mono ?_
    rintro e w3 ⟨⟨v, rfl, hv⟩, hb3⟩
    obtain ⟨g, rfl, hfl⟩ := errv_flt hv
    have HR := Lib.hid (HFAIL.out w3 (.slice none 0 0) g 2 HI.out hfl (by decide) (by decide) (HE2.out.trans (hb3.mono HE2.out.size)))
    clear hv hb3 hfl HFX HFAIL k2
    go_wp2_with fail
    go_ret2
    exact HR.out
  by_cases q2 : (sz : Int) < (n : Int)
  · have HI : Hid (imgOk shaF okPF m l = false) := Lib.hid (by
      have e : decide ((l.length : Int) = m.size) = false := decide_eq_false (by rw [HOK.out.2, ← HN.out.1]; omega)
      unfold imgOk; rw [e]; simp)
    have HFX : Hid (Calls Tryz.prog 30 #[.int .i64 7, .int .i64 (sz : Int)] w2 (RetErr w2 (some (7, sz)))) := Lib.hid (HF.out w2 7 sz (by decide))
    clear HF
    go_wp2_with fail
    go_at_call 30
    with_reducible refine HFX.out.mono ?_
    rintro e w3 ⟨⟨v, rfl, hv⟩, hb3⟩
    obtain ⟨g, rfl, hfl⟩ := errv_flt hv
    have HR := Lib.hid (HFAIL.out w3 (.slice none 0 0) g 7 HI.out hfl (by decide) (by decide) (HE2.out.trans (hb3.mono HE2.out.size)))
    clear hv hb3 hfl HFX HFAIL k2
    go_wp2_with fail
    go_ret2
    exact HR.out
  have HSZ : Hid (sz = n) := Lib.hid (by omega)
  go_wp2_with fail
  clear k2 q1 q2
  -- the digest
  obtain ⟨sl, hsl⟩ : ∃ sl, sl = (shaF l).map bv := ⟨_, rfl⟩
  obtain ⟨ul, hul⟩ : ∃ ul, ul = m.sum.map bv := ⟨_, rfl⟩
  obtain ⟨nb, hnb⟩ : ∃ nb, nb = !decide (shaF l = m.sum) := ⟨_, rfl⟩
  have HNB := Lib.hid hnb
  have SHC : Hid (∀ w', Below w2.drew.heap.size w2.drew w' → Calls Tryz.prog 34 #[.slice A n c] w' fun e w'' => ∃ v, e = .returned v ∧ (VD.is (.agg sl.toArray)).ok v w'' ∧ Below w'.heap.size w' w'') := Lib.hid fun w' hb => by
    have hbb : Below w.heap.size w w' := HE2.out.trans (Below.mono ⟨hb.os, hb.tape, hb.output, hb.size, hb.block⟩ HE2.out.size)
    refine (sha_calls w' A n c l HN.out.1 ((HA.out.below hbb).mono hbb.size) HN.out.2.1 (by have := HN.out.2.2; omega) (HG.out.below' hbb).sha (by have := (HG.out.below' hbb).size; omega)).mono ?_
    rintro e w'' ⟨rfl, h⟩
    exact ⟨_, rfl, by rw [hsl]; rfl, h⟩
  have LU : Hid (∀ w', Below w2.drew.heap.size w2.drew w' → (Instr.loadAt 45 (.pointer (some ⟨b2, 3, none⟩))).run Tryz.prog w' = .ok (.agg ul.toArray) w') := Lib.hid fun w' hb => run_loadAtM sB32 w' b2 3 ul (Blk.range (HB2.out.keep (hb.block b2 HB2.out.lt)) 3 _ ⟨[.int .i64 m.part, .int .u32 (m.ver : Int), .int .i64 m.size], [], by rw [HMS.out, hul]; simp [mcells], rfl⟩) (by rw [hul, List.length_map, H32.out])
  have NE : Hid (∀ w, (do eqGuard .neq 45 (.tmp 33) (.tmp 35) (.agg sl.toArray) (.agg ul.toArray); binOp .neq 45 (.agg sl.toArray) (.agg ul.toArray) : Sem Value).run Tryz.prog w = .ok (.bool nb) w) := Lib.hid fun w => by rw [hsl, hul, hnb]; exact run_neq32 w _ _ _ _ (sha_len l) H32.out
  clear hsl hul hnb
  refine region_monos (fun ix9 => ([.is (.slice A n c), .is (.agg sl.toArray), .is (.pointer (some ⟨b2, 3, none⟩)), .is (.agg ul.toArray), .is (.bool nb), .is (.bool nb)] : List VD).getD ix9 (.is undef)) [some 32, some 33, some 34, some 35, some 36, some 31] (by kernel_rfl) (by kernel_rfl) (by kernel_rfl) rfl (fun ii hii => ?_) ?_
  · match ii, hii with
    | 0, _ => exact mstep_first rfl (mwant_none rfl) 1 (Or.inl rfl) (by kernel_rfl) (fun _ _ => rfl)
    | 1, _ => exact mstep_call rfl (mwant_none rfl) _ _ _ rfl (enters_of Tryz.func34 (by kernel_rfl) rfl) (fun aa ww cc => by have e0 : aa.tmps.getD 32 undef = .slice A n c := cc.slot 0 32 (by kernel_rfl) rfl; simp only [List.map_toArray, List.map_cons, List.map_nil, Act.eval, e0]; exact (SHC.out) ww cc.below)
    | 2, _ => exact mstep_pure rfl (mwant_none rfl) (fun aa ww cc => ⟨.pointer (some ⟨b2, 3, none⟩), by have e0 : aa.tmps.getD 2 undef = .pointer (some ⟨b2, 0, none⟩) := (cc.orig 2 (by kernel_rfl)).trans rfl; simp only [execOp, Act.eval]; go_simp, rfl⟩)
    | 3, _ => exact mstep_loadO rfl (mwant_none rfl) 34 _ rfl 2 (by kernel_rfl) rfl _ _ rfl rfl (fun w hb => LU.out w hb)
    | 4, _ => exact mstep_bin rfl (mwant_none rfl) .neq 45 _ 33 35 rfl 1 3 (by kernel_rfl) (by kernel_rfl) rfl rfl _ _ _ rfl rfl rfl (fun w => NE.out w)
    | 5, _ => exact mstep_copy rfl (mwant_none rfl) 36 (Or.inr rfl) 4 (by kernel_rfl) rfl rfl
    | n + 6, h => exact absurd h (by show ¬ (n + 6 < 6); omega)
  · intro VV w5 hlen hb5 hok
    match VV, hlen with
    | [v0, v1, v2, v3, v4, v5], _ =>
      obtain rfl : v0 = .slice A n c := hok 0 32 rfl
      obtain rfl : v1 = .agg sl.toArray := hok 1 33 rfl
      obtain rfl : v2 = .pointer (some ⟨b2, 3, none⟩) := hok 2 34 rfl
      obtain rfl : v3 = .agg ul.toArray := hok 3 35 rfl
      obtain rfl : v4 = .bool nb := hok 4 36 rfl
      obtain rfl : v5 = .bool nb := hok 5 31 rfl
      have hb5' : Below w2.heap.size w2 w5 := ⟨hb5.os, hb5.tape, hb5.output, hb5.size, hb5.block⟩
      have HE5 : Hid (Below w.heap.size w w5) := Lib.hid (HE2.out.trans (hb5'.mono HE2.out.size))
      have HB5 : Hid (Blk w5 b2 ms) := Lib.hid (HB2.out.below hb5' HB2.out.lt)
      clear hb5 hb5' hok SHC LU NE HB2 HE2
      simp only [List.zip_cons_cons, List.zip_nil_right, putsL]
      go_simp
      cases nb with
      | true =>
        have HI : Hid (imgOk shaF okPF m l = false) := Lib.hid (by
          have hnb := HNB.out
          have e : decide (shaF l = m.sum) = false := by simpa using hnb.symm
          unfold imgOk; rw [e]; simp)
        have HFX : Hid (Calls Tryz.prog 30 #[.int .i64 8, .int .i64 0] w5 (RetErr w5 (some (8, 0)))) := Lib.hid (HF.out w5 8 0 (by decide))
        clear HF
        go_wp2_with fail
        go_at_call 30
        with_reducible refine HFX.out.mono ?_
        rintro e w3 ⟨⟨v, rfl, hv⟩, hb3⟩
        obtain ⟨g, rfl, hfl⟩ := errv_flt hv
        have HR := Lib.hid (HFAIL.out w3 (.slice none 0 0) g 8 HI.out hfl (by decide) (by decide) (HE5.out.trans (hb3.mono HE5.out.size)))
        clear hv hb3 hfl HFX HFAIL
        go_wp2_with fail
        go_ret2
        exact HR.out
      | false =>
      have HDC : Hid (Calls Tryz.prog 17 #[.slice A n c] w5 (RetDec w5 l)) := Lib.hid (by
        have := Decode_calls w5 A c l ((HA.out.below HE5.out).mono HE5.out.size) (by have := HN.out; omega) (by have := HN.out; omega) (HG.out.below' HE5.out).hdl
        rw [← HN.out.1] at this
        exact this)
      clear HF
      go_wp2_with fail
      go_at_call 17
      with_reducible refine HDC.out.mono ?_
      rintro e w6 ⟨⟨v, v2, rfl, hv⟩, hb6⟩
      have HE6 : Hid (Below w.heap.size w w6) := Lib.hid (HE5.out.trans (hb6.mono HE5.out.size))
      have HB6 : Hid (Blk w6 b2 ms) := Lib.hid (HB5.out.below hb6 HB5.out.lt)
      have k1 : w6.cell? ⟨b2, 1, none⟩ = some (.int .u32 (m.ver : Int)) := HB6.out.cell HM1.out
      have hG6 := Lib.hid (HG.out.below' HE6.out)
      clear hb6 HDC HB5
      rcases hv with ⟨h1, rfl, g, rfl, hfl⟩ | ⟨h1, h2, rfl, A9, c9, rfl, h3⟩ | ⟨h1, c9, k9, h2, rfl, g, g2, rfl, hfl, hfl2⟩
      · have HI : Hid (imgOk shaF okPF m l = false) := Lib.hid (by
          have : okPF l = false := by unfold okPF; simp; intro h; exact absurd h h1
          unfold imgOk; rw [this]; simp)
        have HIN : Hid (∀ k, Calls Tryz.prog 47 #[flt g, .int .i64 k] w6 (RetInA w6 2)) := Lib.hid fun k => in_any w6 g 2 k hG6.out.hdl ⟨_, hfl⟩
        clear hfl h1
        unfold flt at HIN ⊢
        go_wp2_with fail
        go_at_call 47
        with_reducible refine (HIN.out _).mono ?_
        rintro e w7 ⟨g3, rfl, hfl3, hb7⟩
        have HR := Lib.hid (HFAIL.out w7 (.slice none 0 0) g3 2 HI.out hfl3 (by decide) (by decide) (HE6.out.trans (hb7.mono HE6.out.size)))
        clear hfl3 hb7 HIN HFAIL k1
        unfold flt at HR ⊢
        go_wp2_with fail
        go_ret2
        exact HR.out
      · have HI : Hid (imgOk shaF okPF m l = true) := Lib.hid (by
          have h5 : okPF l = true := by unfold okPF; simp; exact ⟨h1, h2⟩
          have hnb := HNB.out
          have h6 : shaF l = m.sum := by simpa using hnb.symm
          have h7 : (l.length : Int) = m.size := by rw [HOK.out.2, ← HN.out.1, HSZ.out]
          unfold imgOk; rw [h5, HOK.out.1]; simp [h6, h7])
        have HR : Hid (RetPg w (imgOk shaF okPF m l) (.returned (.tuple #[.slice A9 (insOf l).length c9, .nilIface])) w6) := Lib.hid ⟨_, _, rfl, .inl ⟨HI.out, rfl⟩, HE6.out⟩
        clear h1 h2 h3 k1
        go_wp2_with fail
        go_ret2
        exact HR.out
      · have HI : Hid (imgOk shaF okPF m l = false) := Lib.hid (by
          have : okPF l = false := by unfold okPF; simp; intro _; rw [h2]; simp
          unfold imgOk; rw [this]; simp)
        have HC9 : Hid (1 ≤ c9 ∧ c9 ≤ 10) := Lib.hid ⟨(check_lt h2).2, check_le h2⟩
        have HIN : Hid (∀ k, Calls Tryz.prog 47 #[flt g2, .int .i64 k] w6 (RetInA w6 c9)) := Lib.hid fun k => in_any w6 g2 c9 k hG6.out.hdl ⟨_, hfl⟩
        clear hfl hfl2 h1 h2
        unfold flt at HIN ⊢
        go_wp2_with fail
        go_at_call 47
        with_reducible refine (HIN.out _).mono ?_
        rintro e w7 ⟨g3, rfl, hfl3, hb7⟩
        have HR := Lib.hid (HFAIL.out w7 (.slice none 0 0) g3 c9 HI.out hfl3 HC9.out.1 HC9.out.2 (HE6.out.trans (hb7.mono HE6.out.size)))
        clear hfl3 hb7 HIN HFAIL k1
        unfold flt at HR ⊢
        go_wp2_with fail
        go_ret2
        exact HR.out
end Go.Proofs.YtjfpoahmjgeogaaGreatDoor
/- Stores into bytes of the call's own. -/
namespace Go.Proofs.YtjfpoahmjgeogaaGreatDoor
open Go.RowKit Nac
section
variable {w w' : World} {base B : Nat} {A : Option Addr} {c : Nat} {l : List UInt8}
theorem OB.at (h : OB w base A c l) {k : Nat} (hk : k < l.length) :
    ∃ g, A = some ⟨g, 0, none⟩ ∧ base ≤ g ∧ g < w.heap.size ∧ w.cell? ⟨g, k, none⟩ = some (.int .u8 ((l[k]).toNat : Int)) ∧ w.frozen? ⟨g, k, none⟩ = false := by
  rcases h.2 with ⟨hv, hn⟩ | ⟨g, cap, cur, hv, hb, hg, hnc, hcm, hcs, ht⟩
  · omega
  · injection hv with h1 h2 h3
    subst h1
    refine ⟨g, rfl, hb, (Array.getElem?_eq_some_iff.1 hg).1, ?_, ?_⟩
    · rw [cell_of_row w g k cur _ (0, 0) hg]
      have e : (l.map bv)[k]? = some (bv l[k]) := by simp [hk]
      rw [← ht, List.getElem?_take_of_lt (by omega)] at e
      simpa [bv] using e
    · unfold World.frozen?
      simp [hg]
theorem OB.set {g : Nat} (h : OB w base (some ⟨g, 0, none⟩) c l) (k : Nat) (x : UInt8) {v : Value} (hv : v = bv x) : OB (w.setCell ⟨g, k, none⟩ v) base (some ⟨g, 0, none⟩) c (l.set k x) := by
  subst hv
  have := (World.ownsRow.stored h k (bv x)).1
  unfold OB
  rw [List.map_set, List.length_set]
  exact this
theorem OB.other (h : OB w base A c l) {a : Addr} (ha : A.map (·.block) ≠ some a.block) (v : Value) : OB (w.setCell a v) base A c l :=
  ownsRow_setCell_other h (by cases A <;> simp_all [Value.ownBlock]) v
theorem OB.cellAt {g : Nat} (h : OB w base (some ⟨g, 0, none⟩) c l) {k : Nat} (hk : k < l.length) : w.cell? ⟨g, k, none⟩ = some (.int .u8 ((l[k]).toNat : Int)) := by
  obtain ⟨g', he, _, _, h1, _⟩ := h.at hk
  injection he with he
  injection he with he
  subst he
  exact h1
theorem OB.freeAt {g : Nat} (h : OB w base (some ⟨g, 0, none⟩) c l) (k : Nat) : w.frozen? ⟨g, k, none⟩ = false := World.ownsRow.frozenAt h k
theorem OB.block {g : Nat} (h : OB w base (some ⟨g, 0, none⟩) c l) : base ≤ g ∧ g < w.heap.size := h.lt g rfl
end
end Go.Proofs.YtjfpoahmjgeogaaGreatDoor
/- octet.Put: what it returns, a row of its own. -/
namespace Go.Proofs.YtjfpoahmjgeogaaGreatDoor
open Go.RowKit Nac Nac.Crc
def RetPut (w : World) (l : List UInt8) (e : Ending) (w' : World) : Prop := ∃ A c, e = .returned (.slice A l.length c) ∧ OB w' w.heap.size A c l ∧ Below w.heap.size w w'
theorem put_ret (w : World) (n size : Nat) (h1 : 1 ≤ size) (h8 : size ≤ 8) : Calls Tryz.prog 91 #[.int .u64 n, .int .i64 size] w (RetPut w (lbs n size)) :=
  (put_calls w n size h1 h8).mono (by
    rintro e w' ⟨rfl, rfl⟩
    have ho := OB.new w (base := w.heap.size) (Nat.le_refl _) (lbs n size) (by rw [lbs_length]; omega)
    rw [lbs_length] at ho
    exact ⟨_, _, by rw [lbs_length], ho, (Below.refl _ _).alloc (Nat.le_refl _) _⟩)
end Go.Proofs.YtjfpoahmjgeogaaGreatDoor
/- image: Check, Finish, Encode. -/
namespace Go.Proofs.YtjfpoahmjgeogaaGreatDoor
open Go.RowKit Nac Nac.Img Nac.Sha Nac.Crc
theorem aB32 : AInfo 45 5 32 := ⟨by kernel_rfl, by kernel_rfl⟩
def RetCk (w : World) (ok : Bool) (e : Ending) (w' : World) : Prop := ∃ ev, e = .returned ev ∧ PgV ok ev w' ∧ Below w.heap.size w w'
set_option maxRecDepth 100000 in
set_option maxHeartbeats 4000000 in
theorem icheck_calls (w : World) (hG : Gl w) (m : Man) (h32 : m.sum.length = 32) (A : Option Addr) (n c : Nat) (l : List UInt8) (hn : n = l.length) (hA : RB w w.heap.size A l) (hc : n ≤ c) (hl : n ≤ 1000000) :
    Calls Tryz.prog 16 #[.agg (mcells m).toArray, .slice A n c] w (RetCk w (imgOk shaF okPF m l)) := by
  have HP : Hid (∀ w1, Below w.heap.size w w1 → Calls Tryz.prog 46 #[.agg (mcells m).toArray, .slice A n c] w1 (RetPg w1 (imgOk shaF okPF m l))) := Lib.hid fun w1 hb => program_calls w1 (hG.below' hb) m h32 A n c l hn ((hA.below hb).mono hb.size) hc hl
  obtain ⟨ms, hms⟩ : ∃ ms, ms = mcells m := ⟨_, rfl⟩
  have HM35 : Hid (ms.length = 35) := Lib.hid (by rw [hms, mcells_len m h32])
  obtain ⟨ok, hok⟩ : ∃ ok, ok = imgOk shaF okPF m l := ⟨_, rfl⟩
  rw [← hok] at HP ⊢
  rw [← hms] at HP ⊢
  clear hG h32 hn hA hc hl hms hok
  go_enter Tryz.func16, Tryz.ntmps16
  go_wp2_with (((with_reducible show wpList _ _ _ (Oper.mk _ (Op.box 47 _) _ _ _ _ :: _) _ _); refine wpList_boxS rfl _ rfl ms (by rfl) ?_))
  intro w1 hb1 hg1 hs1
  have HB1 := Lib.hid hb1
  have HE1 : Hid (Below w.heap.size w w1) := Lib.hid (gbelow hg1)
  clear hb1 hg1 hs1
  go_wp2_with (((with_reducible show wpList _ _ _ (Oper.mk _ (Op.load 47 _) _ _ _ _ :: _) _ _); refine wpList_loadS sMan rfl _ rfl w.heap.size ms rfl HB1.out HM35.out ?_))
  go_at_call 46
  with_reducible refine (HP.out w1 HE1.out).mono ?_
  rintro e w2 ⟨v, ev, rfl, hv, hb2⟩
  have HR : Hid (RetCk w ok (.returned ev) w2) := Lib.hid ⟨ev, rfl, hv, HE1.out.trans (hb2.mono HE1.out.size)⟩
  clear hv hb2 HB1 HE1 HP
  go_wp2_with fail
  go_ret
  exact HR.out
set_option maxRecDepth 100000 in
set_option maxHeartbeats 4000000 in
theorem ifinish_calls (w : World) (hG : Gl w) (m : Man) (h32 : m.sum.length = 32) (A : Option Addr) (n c : Nat) (l : List UInt8) (hn : n = l.length) (hA : RB w w.heap.size A l) (hc : n ≤ c) (hl : n ≤ 1000000) :
    Calls Tryz.prog 41 #[.agg (scells m A n c).toArray] w (RetPg w (imgOk shaF okPF m l)) := by
  have HP : Hid (∀ w1, Below w.heap.size w w1 → Calls Tryz.prog 46 #[.agg (mcells m).toArray, .slice A n c] w1 (RetPg w1 (imgOk shaF okPF m l))) := Lib.hid fun w1 hb => program_calls w1 (hG.below' hb) m h32 A n c l hn ((hA.below hb).mono hb.size) hc hl
  obtain ⟨ss, hss⟩ : ∃ ss, ss = scells m A n c := ⟨_, rfl⟩
  obtain ⟨ms, hms⟩ : ∃ ms, ms = mcells m := ⟨_, rfl⟩
  have HM35 : Hid (ms.length = 35) := Lib.hid (by rw [hms, mcells_len m h32])
  have HSM : Hid (ss = ms ++ [.slice A n c]) := Lib.hid (by rw [hss, hms]; rfl)
  have HS35 : Hid (ss[35]? = some (.slice A n c)) := Lib.hid (by rw [hss]; exact scells_got m h32 _ _ _)
  obtain ⟨ok, hok⟩ : ∃ ok, ok = imgOk shaF okPF m l := ⟨_, rfl⟩
  rw [← hok] at HP ⊢
  rw [← hms] at HP
  rw [← hss]
  clear hG h32 hn hA hc hl hms hss hok
  go_enter Tryz.func41, Tryz.ntmps41
  go_wp2_with (((with_reducible show wpList _ _ _ (Oper.mk _ (Op.box 87 _) _ _ _ _ :: _) _ _); refine wpList_boxS rfl _ rfl ss (by rfl) ?_))
  intro w1 hb1 hg1 hs1
  obtain ⟨b1, hB1⟩ : ∃ b1, b1 = w.heap.size := ⟨_, rfl⟩
  rw [← hB1] at hb1 ⊢
  have HB1 := Lib.hid hb1
  have HE1 : Hid (Below w.heap.size w w1) := Lib.hid (gbelow hg1)
  have k35 : w1.cell? ⟨b1, 35, none⟩ = some (.slice A n c) := hb1.cell HS35.out
  clear hb1 hg1 hs1 hB1
  go_wp2_with (((with_reducible show wpList _ _ _ (Oper.mk _ (Op.load 47 _) _ _ _ _ :: _) _ _); refine wpList_loadM sMan rfl _ rfl b1 0 ms rfl (Blk.range HB1.out 0 _ ⟨[], _, by rw [HSM.out]; rfl, rfl⟩) HM35.out ?_))
  go_at_call 46
  with_reducible refine (HP.out w1 HE1.out).mono ?_
  rintro e w2 ⟨v, ev, rfl, hv, hb2⟩
  have HR : Hid (RetPg w ok (.returned (.tuple #[v, ev])) w2) := Lib.hid ⟨v, ev, rfl, hv, HE1.out.trans (hb2.mono HE1.out.size)⟩
  clear hv hb2 HB1 HE1 HP k35
  go_wp2_with fail
  go_ret2
  exact HR.out
structure BS (w0 : World) (A : Option Addr) (c : Nat) (l : List UInt8) (w : World) : Prop where
  ob : OB w w0.heap.size A c l
  bel : Below w0.heap.size w0 w
theorem BS.below {w0 w w' : World} {A : Option Addr} {c : Nat} {l : List UInt8} (h : BS w0 A c l w) (hb : Below w.heap.size w w') : BS w0 A c l w' := ⟨h.ob.below hb (Nat.le_refl _), h.bel.trans (hb.mono h.bel.size)⟩
theorem BS.app {w0 w w' : World} {A A' : Option Addr} {c c' : Nat} {l L : List UInt8} (h : BS w0 A c l w) (ho : OB w' w0.heap.size A' c' L) (hg : w.grownBy w' (A.map (·.block))) : BS w0 A' c' L w' := ⟨ho, below_app h.bel hg h.ob h.bel.size (Nat.le_refl _)⟩
set_option maxRecDepth 100000 in
set_option maxHeartbeats 8000000 in
theorem iencode_calls (w : World) (m : Man) (h32 : m.sum.length = 32) (hok : m.okB = true) (hv : m.ver < 4294967296) :
    Calls Tryz.prog 103 #[.agg (mcells m).toArray] w (RetPut w (encM m)) := by
  have HVC : Hid (∀ w, Calls Tryz.prog 60 #[.agg (mcells m).toArray] w (fun e w' => e = .returned (.bool true) ∧ Below w.heap.size w w')) := Lib.hid fun w => by have := valid_calls w m; rw [hok] at this; exact this
  obtain ⟨p, sz, hp, hsz, hp8, hs512⟩ : ∃ p sz : Nat, m.part = (p : Int) ∧ m.size = (sz : Int) ∧ p < 8 ∧ sz ≤ 512 := by
    have h := hok
    have : 0 ≤ m.part ∧ m.part < 8 ∧ 4 ≤ m.size ∧ m.size ≤ 512 ∧ m.size % 4 = 0 := of_decide_eq_true h
    obtain ⟨s, hs⟩ := Int.eq_ofNat_of_zero_le (by omega : 0 ≤ m.size)
    obtain ⟨p, hp⟩ := Int.eq_ofNat_of_zero_le (by omega : 0 ≤ m.part)
    exact ⟨p, s, hp, hs, by omega, by omega⟩
  obtain ⟨P1, hP1⟩ : ∃ P, P = lbs p 1 := ⟨_, rfl⟩
  obtain ⟨P2, hP2⟩ : ∃ P, P = lbs m.ver 4 := ⟨_, rfl⟩
  obtain ⟨P3, hP3⟩ : ∃ P, P = lbs sz 2 := ⟨_, rfl⟩
  have HE : Hid (encM m = [] ++ [77] ++ P1 ++ P2 ++ P3 ++ m.sum) := Lib.hid (by unfold encM; rw [if_pos hok, hp, hsz, hP1, hP2, hP3]; simp)
  have HL : Hid (P1.length = 1 ∧ P2.length = 4 ∧ P3.length = 2 ∧ m.sum.length = 32) := Lib.hid ⟨by rw [hP1]; exact lbs_length _ _, by rw [hP2]; exact lbs_length _ _, by rw [hP3]; exact lbs_length _ _, h32⟩
  have HC1 : Hid (∀ w, Calls Tryz.prog 91 #[.int .u64 (p : Int), .int .i64 1] w (RetPut w P1)) := Lib.hid fun w => by rw [hP1]; exact put_ret w p 1 (by decide) (by decide)
  have HC2 : Hid (∀ w, Calls Tryz.prog 91 #[.int .u64 (m.ver : Int), .int .i64 4] w (RetPut w P2)) := Lib.hid fun w => by rw [hP2]; exact put_ret w m.ver 4 (by decide) (by decide)
  have HC3 : Hid (∀ w, Calls Tryz.prog 91 #[.int .u64 (sz : Int), .int .i64 2] w (RetPut w P3)) := Lib.hid fun w => by rw [hP3]; exact put_ret w sz 2 (by decide) (by decide)
  obtain ⟨vr, hvr⟩ : ∃ vr, vr = m.ver := ⟨_, rfl⟩
  rw [← hvr] at HC2
  have w1' : IntKind.u64.wrap (p : Int) = (p : Int) := by rw [IntKind.wrap_u64]; omega
  have w2' : IntKind.u64.wrap (vr : Int) = (vr : Int) := by rw [IntKind.wrap_u64]; omega
  have w3' : IntKind.u64.wrap (sz : Int) = (sz : Int) := by rw [IntKind.wrap_u64]; omega
  obtain ⟨ms, hms⟩ : ∃ ms, ms = mcells m := ⟨_, rfl⟩
  obtain ⟨u, hu⟩ : ∃ u, u = m.sum := ⟨_, rfl⟩
  have HM35 : Hid (ms.length = 35) := Lib.hid (by rw [hms, mcells_len m h32])
  have HMC : Hid (ms = .int .i64 (p : Int) :: .int .u32 (vr : Int) :: .int .i64 (sz : Int) :: u.map bv) := Lib.hid (by rw [hms, hvr, hu]; unfold mcells; rw [hp, hsz])
  obtain ⟨E, hE⟩ : ∃ E, E = encM m := ⟨_, rfl⟩
  rw [← hE, ← hu] at HE
  rw [← hu] at HL
  rw [← hms] at HVC
  rw [← hms, ← hE]
  clear hms hE hu hvr hP1 hP2 hP3 hp hsz h32 hok hv
  go_enter Tryz.func103, Tryz.ntmps103
  go_wp2_with (((with_reducible show wpList _ _ _ (Oper.mk _ (Op.box 47 _) _ _ _ _ :: _) _ _); refine wpList_boxS rfl _ rfl ms (by rfl) ?_))
  intro w1 hb1 hg1 hs1
  obtain ⟨b1, hB1⟩ : ∃ b1, b1 = w.heap.size := ⟨_, rfl⟩
  rw [← hB1] at hb1 ⊢
  have HB1 := Lib.hid hb1
  have HE1 : Hid (Below w.heap.size w w1) := Lib.hid (gbelow hg1)
  clear hb1 hg1 hs1 hB1
  go_wp2_with (((with_reducible show wpList _ _ _ (Oper.mk _ (Op.load 47 _) _ _ _ _ :: _) _ _); refine wpList_loadS sMan rfl _ rfl b1 ms rfl HB1.out HM35.out ?_))
  go_at_call 60
  with_reducible refine (HVC.out w1).mono ?_
  rintro e w2 ⟨rfl, hb2⟩
  have HB2 : Hid (Blk w2 b1 ms) := Lib.hid (HB1.out.below hb2 HB1.out.lt)
  have HE2 : Hid (Below w.heap.size w w2) := Lib.hid (HE1.out.trans (hb2.mono HE1.out.size))
  clear hb2 HB1 HE1 HVC
  have KM : Hid (∀ w', Below w2.heap.size w2 w' → w'.cell? ⟨b1, 0, none⟩ = some (.int .i64 (p : Int)) ∧ w'.cell? ⟨b1, 1, none⟩ = some (.int .u32 (vr : Int)) ∧ w'.cell? ⟨b1, 2, none⟩ = some (.int .i64 (sz : Int)) ∧ RB w' w'.heap.size (some ⟨b1, 3, none⟩) u) := Lib.hid fun w' hb => by
    have h := HB2.out.below hb HB2.out.lt
    rw [HMC.out] at h
    refine ⟨h.cell rfl, h.cell rfl, h.cell rfl, fun _ => ⟨b1, 3, rfl, h.lt, fun j hj => h.cell ?_⟩⟩
    rw [Nat.add_comm]
    show (u.map bv)[j]? = _
    rw [List.getElem?_map, List.getElem?_eq_getElem hj]
    rfl
  go_wp2_with (((with_reducible show wpList _ _ _ (Oper.mk _ (Op.makeSlice 36 _ _) _ _ _ _ :: _) _ _); refine wpList_make0_bytes _ rfl _ _ rfl w2.heap.size .i64 .i64 40 40 rfl rfl rfl (by decide) (Nat.le_refl _) ?_))
  intro w3 ho3 hg3
  obtain ⟨A3, hA3⟩ : ∃ A3 : Option Addr, A3 = some ⟨w2.heap.size, 0, none⟩ := ⟨_, rfl⟩
  obtain ⟨l3, hl3⟩ : ∃ l3 : List UInt8, l3 = [] := ⟨_, rfl⟩
  rw [← hA3] at ho3 ⊢
  rw [← hl3] at ho3
  have H3 : Hid (BS w2 A3 40 l3 w3) := Lib.hid ⟨ho3, gbelow hg3⟩
  have HL3 := Lib.hid hl3
  clear ho3 hg3 hA3 hl3
  go_wp2_with (((with_reducible show wpList _ _ _ (Oper.mk _ (Op.buildSlice 36 _ _) _ _ _ _ :: _) _ _); refine wpList_byte1 rfl _ rfl 77 rfl ?_))
  intro w4 hb4 hg4 hs4
  obtain ⟨g4, hg4'⟩ : ∃ g, g = w3.heap.size := ⟨_, rfl⟩
  rw [← hg4'] at hb4 ⊢
  have H4 : Hid (BS w2 A3 40 l3 w4) := Lib.hid (H3.out.below (gbelow hg4))
  have HR4 : Hid (RB w4 w4.heap.size (some ⟨g4, 0, none⟩) [77]) := Lib.hid fun _ => ⟨g4, 0, rfl, hb4.lt, fun j hj => by
    have : j = 0 := by simpa using hj
    subst this
    exact hb4.cell rfl⟩
  clear hb4 hg4 hs4 hg4' H3
  go_wp2_with (((with_reducible show wpList _ _ _ (Oper.mk _ (Op.call (Call.mk (Callee.builtin Builtin.append) _ _)) _ _ _ _ :: _) _ _); refine wpList_app_bytes _ rfl _ _ rfl w2.heap.size A3 40 l3 0 rfl (by rw [HL3.out]; rfl) H4.out.ob (some ⟨g4, 0, none⟩) 1 [77] 1 rfl rfl HR4.out (by rw [HL3.out]; decide) H4.out.bel.size ?_))
  intro A5 c5 l5 w5 hl5 ho5 hg5 hx5
  have H5 : Hid (BS w2 A5 c5 l5 w5) := Lib.hid (H4.out.app ho5 hg5)
  have HL5 := hl5
  have HLB5 : Hid (l5.length ≤ 1) := Lib.hid (by rw [hl5.out, HL3.out]; decide)
  clear hl5 ho5 hg5 hx5 H4 HR4
  obtain ⟨k0, k1, k2, _⟩ := KM.out w5 H5.out.bel
  go_wp2_with fail
  go_at_call 91
  with_reducible refine (HC1.out _).mono ?_
  rintro e w6 ⟨A6p, c6p, rfl, ho6, hb6⟩
  have HR6 := Lib.hid ho6.rb
  have H6 : Hid (BS w2 A5 c5 l5 w6) := Lib.hid (H5.out.below hb6)
  clear ho6 hb6 k0 k1 k2
  go_wp2_with (((with_reducible show wpList _ _ _ (Oper.mk _ (Op.call (Call.mk (Callee.builtin Builtin.append) _ _)) _ _ _ _ :: _) _ _); refine wpList_app_bytes _ rfl _ _ rfl w2.heap.size A5 c5 l5 l5.length rfl rfl H6.out.ob A6p c6p P1 P1.length (by rfl) rfl HR6.out (by have := HLB5.out; have := HL.out; omega) H6.out.bel.size ?_))
  intro A7 c7 l7 w7 hl7 ho7 hg7 hx7
  have H7 : Hid (BS w2 A7 c7 l7 w7) := Lib.hid (H6.out.app ho7 hg7)
  have HL7 := hl7
  have HLB7 : Hid (l7.length ≤ 2) := Lib.hid (by rw [hl7.out, List.length_append]; have := HLB5.out; have := HL.out; omega)
  clear hl7 ho7 hg7 hx7 H6 HR6 H5
  obtain ⟨k0, k1, k2, _⟩ := KM.out w7 H7.out.bel
  go_wp2_with fail
  go_at_call 91
  with_reducible refine (HC2.out _).mono ?_
  rintro e w8 ⟨A8p, c8p, rfl, ho8, hb8⟩
  have HR8 := Lib.hid ho8.rb
  have H8 : Hid (BS w2 A7 c7 l7 w8) := Lib.hid (H7.out.below hb8)
  clear ho8 hb8 k0 k1 k2
  go_wp2_with (((with_reducible show wpList _ _ _ (Oper.mk _ (Op.call (Call.mk (Callee.builtin Builtin.append) _ _)) _ _ _ _ :: _) _ _); refine wpList_app_bytes _ rfl _ _ rfl w2.heap.size A7 c7 l7 l7.length rfl rfl H8.out.ob A8p c8p P2 P2.length (by rfl) rfl HR8.out (by have := HLB7.out; have := HL.out; omega) H8.out.bel.size ?_))
  intro A9 c9 l9 w9 hl9 ho9 hg9 hx9
  have H9 : Hid (BS w2 A9 c9 l9 w9) := Lib.hid (H8.out.app ho9 hg9)
  have HL9 := hl9
  have HLB9 : Hid (l9.length ≤ 6) := Lib.hid (by rw [hl9.out, List.length_append]; have := HLB7.out; have := HL.out; omega)
  clear hl9 ho9 hg9 hx9 H8 HR8 H7
  obtain ⟨k0, k1, k2, _⟩ := KM.out w9 H9.out.bel
  go_wp2_with fail
  go_at_call 91
  with_reducible refine (HC3.out _).mono ?_
  rintro e w10 ⟨A10p, c10p, rfl, ho10, hb10⟩
  have HR10 := Lib.hid ho10.rb
  have H10 : Hid (BS w2 A9 c9 l9 w10) := Lib.hid (H9.out.below hb10)
  clear ho10 hb10 k0 k1 k2
  go_wp2_with (((with_reducible show wpList _ _ _ (Oper.mk _ (Op.call (Call.mk (Callee.builtin Builtin.append) _ _)) _ _ _ _ :: _) _ _); refine wpList_app_bytes _ rfl _ _ rfl w2.heap.size A9 c9 l9 l9.length rfl rfl H10.out.ob A10p c10p P3 P3.length (by rfl) rfl HR10.out (by have := HLB9.out; have := HL.out; omega) H10.out.bel.size ?_))
  intro A11 c11 l11 w11 hl11 ho11 hg11 hx11
  have H11 : Hid (BS w2 A11 c11 l11 w11) := Lib.hid (H10.out.app ho11 hg11)
  have HL11 := hl11
  have HLB11 : Hid (l11.length ≤ 8) := Lib.hid (by rw [hl11.out, List.length_append]; have := HLB9.out; have := HL.out; omega)
  clear hl11 ho11 hg11 hx11 H10 HR10 H9
  obtain ⟨_, _, _, kr⟩ := KM.out w11 H11.out.bel
  have HRU := Lib.hid kr
  clear kr
  go_wp2_with (first | ((with_reducible show wpList _ _ _ (Oper.mk _ (Op.slice 45 _ _ _ _) _ _ _ _ :: _) _ _); refine wpList_arrAll aB32 (by decide) rfl _ rfl b1 3 rfl ?_) | ((with_reducible show wpList _ _ _ (Oper.mk _ (Op.call (Call.mk (Callee.builtin Builtin.append) _ _)) _ _ _ _ :: _) _ _); refine wpList_app_bytes _ rfl _ _ rfl w2.heap.size A11 c11 l11 l11.length rfl rfl H11.out.ob (some ⟨b1, 3, none⟩) 32 u 32 (by rfl) HL.out.2.2.2.symm HRU.out (by have := HLB11.out; have := HL.out; omega) H11.out.bel.size ?_))
  intro A12 c12 l12 w12 hl12 ho12 hg12 hx12
  have HRES : Hid (RetPut w E (.returned (.slice A12 l12.length c12)) w12) := Lib.hid <| by
    have h := H11.out.app ho12 hg12
    have e : E = l12 := by rw [HE.out, hl12.out, HL11.out, HL9.out, HL7.out, HL5.out, HL3.out]
    rw [e]
    exact ⟨A12, c12, rfl, h.ob.mono HE2.out.size, HE2.out.trans (h.bel.mono HE2.out.size)⟩
  clear hl12 ho12 hg12 hx12 H11 HRU
  go_wp2_with fail
  go_ret
  exact HRES.out
end Go.Proofs.YtjfpoahmjgeogaaGreatDoor
/- A reader of bytes, as the text of octet has it: its bytes, the offset, the failure. No program in sight. -/
namespace Nac
open Go Go.RowKit Nac.Crc
structure Rdr where
  l : List UInt8
  pos : Nat
  code : Nat
def Rdr.left (r : Rdr) : Nat := r.l.length - r.pos
def Rdr.fail (r : Rdr) (c : Nat) : Rdr := if r.code = 0 then { r with code := c } else r
def Rdr.take (r : Rdr) (n : Nat) : Rdr × Option (List UInt8) :=
  if r.code ≠ 0 then (r, none) else if r.left < n then (r.fail 2, none) else ({ r with pos := r.pos + n }, some ((r.l.drop r.pos).take n))
def Rdr.num (r : Rdr) (size : Int) : Rdr × Nat :=
  if size < 1 ∨ 8 < size then (r.fail 1, 0) else ((r.take size.toNat).1, le ((r.take size.toNat).2.getD []))
def Rdr.text (r : Rdr) : Rdr × List UInt8 :=
  if r.code ≠ 0 then (r, [])
  else if r.left = 0 ∨ r.left - 1 < (r.l.getD r.pos 0).toNat then (r.fail 2, [])
  else ({ r with pos := r.pos + 1 + (r.l.getD r.pos 0).toNat }, (r.l.drop (r.pos + 1)).take (r.l.getD r.pos 0).toNat)
def Rdr.bytes (r : Rdr) (n : Int) : Rdr × List UInt8 :=
  if n < 0 then (r.fail 1, []) else ((r.take n.toNat).1, (r.take n.toNat).2.getD [])
def Rdr.fin (r : Rdr) : Option (Nat × Nat) := if r.code ≠ 0 then some (r.code, r.pos) else if 0 < r.left then some (7, r.pos) else none
structure RdM (w : World) (b : Nat) (A : Option Addr) (c : Nat) (r : Rdr) : Prop where
  blk : Blk w b [.slice A r.l.length c, .int .i64 r.pos, .int .i64 r.code]
  rb : RB w b A r.l
  cap : r.l.length ≤ c
  pos : r.pos ≤ r.l.length
theorem RdM.below {w w' : World} {b c : Nat} {A : Option Addr} {r : Rdr} (h : RdM w b A c r) {B : Nat} (hb : Below B w w') (hB : b < B) : RdM w' b A c r :=
  ⟨h.blk.below hb hB, h.rb.below (hb.mono (Nat.le_of_lt hB)), h.cap, h.pos⟩
theorem RdM.grown {w w' : World} {b c : Nat} {A : Option Addr} {r : Rdr} (h : RdM w b A c r) {row : Option Nat} (hg : w.grownBy w' row) (hne : ∀ k, row = some k → b < k) : RdM w' b A c r :=
  h.below (B := b + 1) ((Below.refl _ _).grown hg h.blk.lt (fun k e => hne k e)) (Nat.lt_succ_self _)
end Nac
/- octet's reader: Read, Left, At, fail. -/
namespace Go.Proofs.YtjfpoahmjgeogaaGreatDoor
open Go.RowKit Nac
def RetRd (w : World) (l : List UInt8) (e : Ending) (w' : World) : Prop := ∃ b A c, e = .returned (.pointer (some ⟨b, 0, none⟩)) ∧ RdM w' b A c ⟨l, 0, 0⟩ ∧ w.heap.size ≤ b ∧ Below w.heap.size w w'
set_option maxHeartbeats 1000000 in
theorem read_calls (w : World) (B : Nat) (A : Option Addr) (c : Nat) (l : List UInt8) (h : RB w B A l) (_hB : B ≤ w.heap.size) (h8 : l.length ≤ 140737488351232) :
    Calls Tryz.prog 77 #[.slice A l.length c] w (RetRd w l) := by
  go_enter Tryz.func77, Tryz.ntmps77
  go_wp2_with (at_builtin; refine wpList_app_bytes _ rfl _ _ rfl w.heap.size none 0 [] _ rfl rfl (OB.nil _ _) A c l _ rfl rfl h (by simp; omega) (Nat.le_refl _) ?_)
  intro A' c' L w1 HL ho hg _
  have hL : L = l := HL.out
  subst hL
  have HO := Lib.hid ho
  have HG : Hid (Below w.heap.size w w1) := (Below.refl _ _).grown hg (Nat.le_refl _) (fun k e => by cases e)
  clear HL ho hg
  go_wp2
  go_ret
  have hrb := HO.out.rb
  refine ⟨w1.heap.size, A', c', rfl, ⟨Blk.new w1 _ _, hrb.below ((Below.refl _ _).alloc (Nat.le_refl _) _), HO.out.len, Nat.zero_le _⟩, HG.out.size, HG.out.alloc HG.out.size _⟩
theorem left_calls (w : World) (b : Nat) (A : Option Addr) (c : Nat) (r : Rdr) (h : RdM w b A c r) (h8 : r.l.length ≤ 140737488351232) :
    Calls Tryz.prog 113 #[.pointer (some ⟨b, 0, none⟩)] w fun e w' => e = .returned (.int .i64 r.left) ∧ w.drew = w' := by
  have c0 : w.cell? ⟨b, 0, none⟩ = some (.slice A r.l.length c) := h.blk.cell rfl
  have c1 : w.cell? ⟨b, 1, none⟩ = some (.int .i64 r.pos) := h.blk.cell rfl
  have hp := h.pos
  have hl : ((r.left : Nat) : Int) = (r.l.length : Int) - r.pos := by unfold Rdr.left; omega
  have HL := Lib.hid hl
  clear hl
  go_enter Tryz.func113, Tryz.ntmps113
  go_wp2
  go_region
  all_goals
    go_wp2
    go_ret
    rw [HL.out]
    exact ⟨rfl, rfl⟩
theorem fail_calls (w : World) (b : Nat) (A : Option Addr) (c : Nat) (r : Rdr) (h : RdM w b A c r) (k : Nat) :
    Calls Tryz.prog 98 #[.pointer (some ⟨b, 0, none⟩), .int .i64 k] w fun e w' => e = .returned (.tuple #[]) ∧ RdM w' b A c (r.fail k) ∧ w.grownBy w' (some b) := by
  have c2 : w.cell? ⟨b, 2, none⟩ = some (.int .i64 r.code) := h.blk.cell rfl
  have f2 := h.blk.free 2
  by_cases hc : r.code = 0
  · have e0 : ((r.code : Int) == 0) = true := by rw [hc]; rfl
    have e1 : (r.code : Int) = 0 := by omega
    have hf : r.fail k = { r with code := k } := if_pos hc
    have HF := Lib.hid hf
    have HM := Lib.hid h
    clear hf hc h
    go_enter Tryz.func98, Tryz.ntmps98
    go_wp2
    go_end0
    rw [HF.out]
    have h2 := HM.out.blk.setCell 2 (.int .i64 (k : Int))
    have hg : w.grownBy (w.setCell ⟨b, 2, none⟩ (.int .i64 (k : Int))) (some b) := grown_setCell w ⟨b, 2, none⟩ _
    exact ⟨rfl, ⟨h2, HM.out.rb.below ((Below.refl b w).grown hg (Nat.le_of_lt HM.out.blk.lt) (fun k e => by injection e with e; omega)), HM.out.cap, HM.out.pos⟩, hg⟩
  · have e0 : ((r.code : Int) == 0) = false := by rw [beq_eq_false_iff_ne]; omega
    have e1 : ¬ (r.code : Int) = 0 := by omega
    have hf : r.fail k = r := if_neg hc
    have HF := Lib.hid hf
    have HM := Lib.hid h
    clear hf hc h
    go_enter Tryz.func98, Tryz.ntmps98
    go_wp2
    go_end0
    rw [HF.out]
    exact ⟨rfl, HM.out, World.grownBy.refl w _⟩
/- octet's reader: take. -/
def TakeV (x : Option (List UInt8)) (b : Nat) (e : Ending) (w' : World) : Prop :=
  match x with
  | none => e = .returned (.tuple #[.slice none 0 0, .bool false])
  | some bs => ∃ A' c', e = .returned (.tuple #[.slice A' bs.length c', .bool true]) ∧ bs.length ≤ c' ∧ RB w' b A' bs
def RetTake (w : World) (b : Nat) (A : Option Addr) (c : Nat) (r : Rdr) (n : Nat) (e : Ending) (w' : World) : Prop := TakeV (r.take n).2 b e w' ∧ RdM w' b A c (r.take n).1 ∧ w.grownBy w' (some b)
set_option maxHeartbeats 2000000 in
theorem take_calls (w : World) (b : Nat) (A : Option Addr) (c : Nat) (r : Rdr) (h : RdM w b A c r) (h8 : r.l.length ≤ 140737488351232) (n : Nat) (hn : n ≤ 140737488351232) :
    Calls Tryz.prog 99 #[.pointer (some ⟨b, 0, none⟩), .int .i64 n] w (RetTake w b A c r n) := by
  have c2 : w.cell? ⟨b, 2, none⟩ = some (.int .i64 r.code) := h.blk.cell rfl
  by_cases hc : r.code = 0
  · have e0 : ((r.code : Int) != 0) = false := by rw [hc]; rfl
    have e1 : (r.code : Int) = 0 := by omega
    by_cases hl : r.left < n
    · have ht : r.take n = (r.fail 2, none) := by unfold Rdr.take; rw [if_neg (by simpa using hc), if_pos hl]
      have HT := Lib.hid ht
      have HM := Lib.hid h
      clear ht h hc
      go_enter Tryz.func99, Tryz.ntmps99
      go_wp2_with fail
      refine (left_calls w b A c r HM.out h8).mono ?_
      rintro e w1 ⟨rfl, rfl⟩
      go_wp2_with fail
      refine (fail_calls w.drew b A c r ⟨HM.out.blk, HM.out.rb, HM.out.cap, HM.out.pos⟩ 2).mono ?_
      rintro e w2 ⟨rfl, hm2, hg2⟩
      have HM2 := Lib.hid hm2
      have HG2 := Lib.hid hg2
      clear hm2 hg2
      go_wp2
      go_ret2
      unfold RetTake
      rw [HT.out]
      exact ⟨rfl, HM2.out, grown_of_drew HG2.out⟩
    · have ht : r.take n = ({ r with pos := r.pos + n }, some ((r.l.drop r.pos).take n)) := by unfold Rdr.take; rw [if_neg (by simpa using hc), if_neg hl]
      have HT := Lib.hid ht
      have HM := Lib.hid h
      have hp := h.pos
      obtain ⟨hi, hhi⟩ : ∃ hi, hi = r.pos + n := ⟨_, rfl⟩
      have hhl : hi ≤ r.l.length := by unfold Rdr.left at hl; omega
      obtain ⟨A2, hA2⟩ : ∃ A2, A2 = (if c = r.pos then A else A.map (·.add (r.pos * 1))) := ⟨_, rfl⟩
      obtain ⟨cx, hcx⟩ : ∃ cx, cx = c - r.pos := ⟨_, rfl⟩
      have hrc := h.rb.cut r.pos hi c (by omega) hhl h.cap
      rw [← hA2] at hrc
      have hbs : (r.l.take hi).drop r.pos = (r.l.drop r.pos).take n := by rw [List.drop_take, hhi, Nat.add_sub_cancel_left]
      rw [hbs] at hrc
      have hbl : ((r.l.drop r.pos).take n).length = n := by simp; omega
      have SL : Hid (∀ (a : Act) (o : Oper) (w : World) (x lO hO : Operand), o.op = .slice 36 x (some lO) (some hO) none → a.eval x = .slice A r.l.length c → a.eval lO = .int .i64 (r.pos : Int) → a.eval hO = .int .i64 (hi : Int) → (execOp a.eval o).run Tryz.prog w = .ok (.value (.slice A2 n cx)) w) := Lib.hid <| fun a o w x lO hO hop hx hlo hho => by
        have := run_cut w A r.l.length c h.cap (some (.int .i64 (r.pos : Int))) (some (.int .i64 (hi : Int))) r.pos hi (.inr rfl) (.inr rfl) (by omega) hhl
        rw [← hA2, ← hcx, show hi - r.pos = n by omega] at this
        simp only [execOp, hop, hx, Option.map_some, Option.map_none, hlo, hho]
        rw [Sem.run_bind, this]
        rfl
      have M0 : Hid (∀ w', Below w.heap.size w.drew w' → w'.cell? ⟨b, 0, none⟩ = some (.slice A r.l.length c)) := fun w' hb => (hb.cell (p := ⟨b, 0, none⟩) HM.out.blk.lt).trans (HM.out.blk.cell rfl)
      have M1 : Hid (∀ w', Below w.heap.size w.drew w' → w'.cell? ⟨b, 1, none⟩ = some (.int .i64 (r.pos : Int))) := fun w' hb => (hb.cell (p := ⟨b, 1, none⟩) HM.out.blk.lt).trans (HM.out.blk.cell rfl)
      have K1 : Hid (IntKind.i64.wrap ((r.pos : Int) + (n : Int)) = (hi : Int)) := Lib.hid <| by rw [IntKind.wrap_i64]; omega
      have HRC := Lib.hid hrc
      have HBL := Lib.hid hbl
      have HHI := Lib.hid hhi
      have hcl : n ≤ cx := by rw [hcx]; have := h.cap; omega
      have k1' : (r.pos : Int) + (n : Int) = (hi : Int) := by omega
      have K1' := Lib.hid k1'
      have hi9 : (hi : Int) ≤ 9223372036854775807 := by omega
      have hnl : ¬ ((r.left : Nat) : Int) < (n : Int) := by omega
      have HJ0 : Hid (Below w.heap.size w.drew w.drew.drew) := (Below.refl w.heap.size w.drew).drew
      clear ht h hc hrc hbl hbs hhi hA2 hcx k1'
      go_enter Tryz.func99, Tryz.ntmps99
      go_wp2_with fail
      refine (left_calls w b A c r HM.out h8).mono ?_
      rintro e w1 ⟨rfl, rfl⟩
      go_wp2_with fail
      obtain ⟨wd, hwd⟩ : ∃ wd, wd = w.drew := ⟨_, rfl⟩
      have HWD := Lib.hid hwd
      rw [← hwd] at M0 M1 HJ0 ⊢
      clear hwd
      refine region_vals [.pointer (some ⟨b, 0, none⟩), .pointer (some ⟨b, 0, none⟩), .pointer (some ⟨b, 0, none⟩), .slice A r.l.length c, .pointer (some ⟨b, 0, none⟩), .pointer (some ⟨b, 0, none⟩), .pointer (some ⟨b, 1, none⟩), .int .i64 (r.pos : Int), .pointer (some ⟨b, 0, none⟩), .pointer (some ⟨b, 0, none⟩), .pointer (some ⟨b, 1, none⟩), .int .i64 (r.pos : Int), .int .i64 (n : Int), .int .i64 (hi : Int), .slice A2 n cx, .slice A2 n cx] [some 17, some 18, some 19, some 20, some 21, some 22, some 23, some 24, some 25, some 26, some 27, some 28, some 29, some 30, some 31, some 4] (fun _ w' => Below w.heap.size wd w') (by kernel_rfl) (by kernel_rfl) (by kernel_rfl) rfl rfl HJ0.out (fun ii hii => ?_) ?_
      · match ii, hii with
        | 0, _ => exact vstep_first rfl (vwant_none rfl) (fun _ _ h => h) 0 (Or.inl rfl) (by kernel_rfl) rfl
        | 1, _ => exact vstep_pure rfl (vwant_none rfl) (fun _ _ h => h) (fun LL aa ww cc => ⟨.pointer (some ⟨b, 0, none⟩), by have e0 : aa.tmps.getD 17 undef = .pointer (some ⟨b, 0, none⟩) := cc.slot 0 17 (by kernel_rfl) rfl; simp only [execOp, Act.eval]; go_simp, rfl⟩)
        | 2, _ => exact vstep_pure rfl (vwant_none rfl) (fun _ _ h => h) (fun LL aa ww cc => ⟨.pointer (some ⟨b, 0, none⟩), by have e0 : aa.tmps.getD 18 undef = .pointer (some ⟨b, 0, none⟩) := cc.slot 1 18 (by kernel_rfl) rfl; simp only [execOp, Act.eval]; go_simp, rfl⟩)
        | 3, _ => exact vstep_pure rfl (vwant_none rfl) (fun _ _ h => h) (fun LL aa ww cc => ⟨.slice A r.l.length c, by have e0 : aa.tmps.getD 19 undef = .pointer (some ⟨b, 0, none⟩) := cc.slot 2 19 (by kernel_rfl) rfl; have m := M0.out _ cc.world; simp only [execOp, Act.eval]; go_simp, rfl⟩)
        | 4, _ => exact vstep_first rfl (vwant_none rfl) (fun _ _ h => h) 0 (Or.inl rfl) (by kernel_rfl) rfl
        | 5, _ => exact vstep_pure rfl (vwant_none rfl) (fun _ _ h => h) (fun LL aa ww cc => ⟨.pointer (some ⟨b, 0, none⟩), by have e0 : aa.tmps.getD 21 undef = .pointer (some ⟨b, 0, none⟩) := cc.slot 4 21 (by kernel_rfl) rfl; simp only [execOp, Act.eval]; go_simp, rfl⟩)
        | 6, _ => exact vstep_pure rfl (vwant_none rfl) (fun _ _ h => h) (fun LL aa ww cc => ⟨.pointer (some ⟨b, 1, none⟩), by have e0 : aa.tmps.getD 22 undef = .pointer (some ⟨b, 0, none⟩) := cc.slot 5 22 (by kernel_rfl) rfl; simp only [execOp, Act.eval]; go_simp, rfl⟩)
        | 7, _ => exact vstep_pure rfl (vwant_none rfl) (fun _ _ h => h) (fun LL aa ww cc => ⟨.int .i64 (r.pos : Int), by have e0 : aa.tmps.getD 23 undef = .pointer (some ⟨b, 1, none⟩) := cc.slot 6 23 (by kernel_rfl) rfl; have m := M1.out _ cc.world; simp only [execOp, Act.eval]; go_simp, rfl⟩)
        | 8, _ => exact vstep_first rfl (vwant_none rfl) (fun _ _ h => h) 0 (Or.inl rfl) (by kernel_rfl) rfl
        | 9, _ => exact vstep_pure rfl (vwant_none rfl) (fun _ _ h => h) (fun LL aa ww cc => ⟨.pointer (some ⟨b, 0, none⟩), by have e0 : aa.tmps.getD 25 undef = .pointer (some ⟨b, 0, none⟩) := cc.slot 8 25 (by kernel_rfl) rfl; simp only [execOp, Act.eval]; go_simp, rfl⟩)
        | 10, _ => exact vstep_pure rfl (vwant_none rfl) (fun _ _ h => h) (fun LL aa ww cc => ⟨.pointer (some ⟨b, 1, none⟩), by have e0 : aa.tmps.getD 26 undef = .pointer (some ⟨b, 0, none⟩) := cc.slot 9 26 (by kernel_rfl) rfl; simp only [execOp, Act.eval]; go_simp, rfl⟩)
        | 11, _ => exact vstep_pure rfl (vwant_none rfl) (fun _ _ h => h) (fun LL aa ww cc => ⟨.int .i64 (r.pos : Int), by have e0 : aa.tmps.getD 27 undef = .pointer (some ⟨b, 1, none⟩) := cc.slot 10 27 (by kernel_rfl) rfl; have m := M1.out _ cc.world; simp only [execOp, Act.eval]; go_simp, rfl⟩)
        | 12, _ => exact vstep_first rfl (vwant_none rfl) (fun _ _ h => h) 1 (Or.inl rfl) (by kernel_rfl) rfl
        | 13, _ => exact vstep_pure rfl (vwant_none rfl) (fun _ _ h => h) (fun LL aa ww cc => ⟨.int .i64 (hi : Int), by have e0 : aa.tmps.getD 28 undef = .int .i64 (r.pos : Int) := cc.slot 11 28 (by kernel_rfl) rfl; have e1 : aa.tmps.getD 29 undef = .int .i64 (n : Int) := cc.slot 12 29 (by kernel_rfl) rfl; have k := K1.out; simp only [execOp, Act.eval]; go_simp, rfl⟩)
        | 14, _ => exact vstep_pure rfl (vwant_none rfl) (fun _ _ h => h) (fun LL aa ww cc => ⟨.slice A2 n cx, by have e0 : aa.tmps.getD 20 undef = .slice A r.l.length c := cc.slot 3 20 (by kernel_rfl) rfl; have e1 : aa.tmps.getD 24 undef = .int .i64 (r.pos : Int) := cc.slot 7 24 (by kernel_rfl) rfl; have e2 : aa.tmps.getD 30 undef = .int .i64 (hi : Int) := cc.slot 13 30 (by kernel_rfl) rfl; exact SL.out aa _ ww _ _ _ rfl e0 e1 e2, rfl⟩)
        | 15, _ => exact vstep_copy rfl (vwant_none rfl) (fun _ _ h => h) 31 (Or.inr rfl) 14 (by kernel_rfl) rfl (fun _ h => h)
        | n + 16, h => exact absurd h (by show ¬ (n + 16 < 16); omega)
      · intro L0 w5 hall hJ
        have hJ' : Below w.heap.size wd w5 := hJ
        have hbw : Below w.heap.size w w5 := by rw [HWD.out] at hJ'; exact (Below.refl w.heap.size w).drew.trans hJ'
        have HB5 := Lib.hid hbw
        have n1 := M1.out w5 hJ'
        have hx5 : Blk w5 b [.slice A r.l.length c, .int .i64 r.pos, .int .i64 r.code] := HM.out.blk.below hbw HM.out.blk.lt
        have f1 := hx5.free 1
        have HX5 := Lib.hid hx5
        clear hJ hJ' hall hbw M0 M1 SL HJ0 hx5 c2 K1
        have k2 := K1'.out
        refine (by assumption : ∀ (a : Act) (w : World), Code.wp _ _ _ a w → _) _ _ ?_
        simp only [List.zip_cons_cons, List.zip_nil_right, putsL]
        go_simp
        go_wp2
        go_ret2
        unfold RetTake
        rw [HT.out]
        have hg : w.grownBy (w5.setCell ⟨b, 1, none⟩ (.int .i64 (hi : Int))) (some b) := by
          have g1 : w.grownBy w5 (some b) := ⟨HB5.out.os, HB5.out.tape, HB5.out.output, HB5.out.size, fun k hk _ => HB5.out.block k hk⟩
          exact g1.trans (grown_setCell w5 ⟨b, 1, none⟩ _)
        have hbb : Below b w (w5.setCell ⟨b, 1, none⟩ (.int .i64 (hi : Int))) := (Below.refl b w).grown hg (Nat.le_of_lt HM.out.blk.lt) (fun k e => by injection e with e; omega)
        refine ⟨⟨A2, cx, by rw [HBL.out]; rfl, by rw [HBL.out]; exact hcl, HRC.out.below hbb⟩, ⟨?_, HM.out.rb.below hbb, HM.out.cap, ?_⟩, hg⟩
        · have := HX5.out.setCell 1 (.int .i64 (hi : Int))
          rw [HHI.out] at this ⊢
          exact this
        · show r.pos + n ≤ r.l.length
          rw [← HHI.out]; exact hhl
  · have e0 : ((r.code : Int) != 0) = true := by rw [bne_iff_ne]; omega
    have e1 : ¬ (r.code : Int) = 0 := by omega
    have ht : r.take n = (r, none) := by unfold Rdr.take; rw [if_pos (by simpa using hc)]
    have HT := Lib.hid ht
    have HM := Lib.hid h
    clear ht h hc
    go_enter Tryz.func99, Tryz.ntmps99
    go_wp2
    go_ret2
    unfold RetTake
    rw [HT.out]
    exact ⟨rfl, HM.out, World.grownBy.refl w _⟩
end Go.Proofs.YtjfpoahmjgeogaaGreatDoor
/- octet's reader: Num, End; same. -/
namespace Go.Proofs.YtjfpoahmjgeogaaGreatDoor
open Go.RowKit Nac Nac.Crc
def RetNum (w : World) (b : Nat) (A : Option Addr) (c : Nat) (x : Rdr × Nat) (e : Ending) (w' : World) : Prop := e = .returned (.int .u64 (x.2 : Int)) ∧ RdM w' b A c x.1 ∧ w.grownBy w' (some b)
set_option maxHeartbeats 1000000 in
theorem num_calls (w : World) (b : Nat) (A : Option Addr) (c : Nat) (r : Rdr) (h : RdM w b A c r) (h8 : r.l.length ≤ 140737488351232) (size : Int) :
    Calls Tryz.prog 78 #[.pointer (some ⟨b, 0, none⟩), .int .i64 size] w (RetNum w b A c (r.num size)) := by
  by_cases hs : size < 1 ∨ 8 < size
  · have hn : r.num size = (r.fail 1, 0) := if_pos hs
    have HN := Lib.hid hn
    have HM := Lib.hid h
    clear hn h
    have hs' : size < 1 ∨ (1 ≤ size ∧ 8 < size) := by omega
    clear hs
    rcases hs' with hs | ⟨hs, hs2⟩
    all_goals
      go_enter Tryz.func78, Tryz.ntmps78
      go_wp2_with fail
      refine (fail_calls w b A c r HM.out 1).mono ?_
      rintro e w2 ⟨rfl, hm2, hg2⟩
      have HM2 := Lib.hid hm2
      have HG2 := Lib.hid hg2
      clear hm2 hg2
      go_wp2
      go_ret
      unfold RetNum
      rw [HN.out]
      exact ⟨rfl, HM2.out, HG2.out⟩
  · have hn : r.num size = ((r.take size.toNat).1, le ((r.take size.toNat).2.getD [])) := if_neg hs
    have HN := Lib.hid hn
    have HM := Lib.hid h
    clear hn h
    obtain ⟨n, rfl⟩ : ∃ n : Nat, size = (n : Int) := ⟨size.toNat, by omega⟩
    have hn1 : 1 ≤ n := by omega
    have hn8 : n ≤ 8 := by omega
    clear hs
    go_enter Tryz.func78, Tryz.ntmps78
    go_wp2_with fail
    refine (take_calls w b A c r HM.out h8 n (by omega)).mono ?_
    rintro e w2 ⟨hv, hm2, hg2⟩
    have HM2 := Lib.hid hm2
    have HG2 := Lib.hid hg2
    clear hm2 hg2
    cases hx : (r.take n).2 with
    | none =>
      rw [hx] at hv
      have hv' : e = .returned (.tuple #[.slice none 0 0, .bool false]) := hv
      subst hv'
      have HZ : Hid ((r.num n).2 = 0) := Lib.hid <| by
        rw [HN.out]; show le ((r.take n).2.getD []) = 0; rw [hx]; rfl
      have HN1 : Hid ((r.num n).1 = (r.take n).1) := Lib.hid <| by rw [HN.out]; rfl
      clear hv hx HN
      go_wp2_with fail
      refine (number_calls w2 0 none 0 [] (RB.nil _ _ _) (by simp)).mono ?_
      rintro e w3 ⟨rfl, rfl⟩
      go_wp2
      go_ret
      unfold RetNum
      rw [HZ.out, HN1.out]
      exact ⟨rfl, HM2.out, HG2.out⟩
    | some bs =>
    rw [hx] at hv
    obtain ⟨A', c', rfl, hbc, hrb⟩ := hv
    have hbl : bs.length ≤ 8 := by
      unfold Rdr.take at hx
      split at hx
      · cases hx
      split at hx
      · cases hx
      · injection hx with hx; subst hx; simp; omega
    have HZ : Hid ((r.num n).2 = le bs) := Lib.hid <| by
      rw [HN.out]; show le ((r.take n).2.getD []) = _; rw [hx]; rfl
    have HN1 : Hid ((r.num n).1 = (r.take n).1) := Lib.hid <| by rw [HN.out]; rfl
    have HRB := Lib.hid hrb
    clear hx HN hrb
    go_wp2_with fail
    refine (number_calls w2 b A' c' bs HRB.out hbl).mono ?_
    rintro e w3 ⟨rfl, rfl⟩
    go_wp2
    go_ret
    unfold RetNum
    rw [HZ.out, HN1.out]
    exact ⟨rfl, HM2.out, HG2.out⟩
def errVD (c i : Nat) : VD := .pr (ErrV (some (c, i))) fun v w w' h hb => by
  obtain ⟨g, h1, h2⟩ := h
  exact ⟨g, h1, h2.below hb h2.lt⟩
theorem RdM.drew {w : World} {b c : Nat} {A : Option Addr} {r : Rdr} (h : RdM w b A c r) : RdM w.drew b A c r := ⟨h.blk, h.rb, h.cap, h.pos⟩
set_option maxHeartbeats 1000000 in
theorem end_calls (w : World) (b : Nat) (A : Option Addr) (c : Nat) (r : Rdr) (h : RdM w b A c r) (h8 : r.l.length ≤ 140737488351232) :
    Calls Tryz.prog 102 #[.pointer (some ⟨b, 0, none⟩)] w (RetErr w r.fin) := by
  have c2 : w.cell? ⟨b, 2, none⟩ = some (.int .i64 r.code) := h.blk.cell rfl
  have c1 : w.cell? ⟨b, 1, none⟩ = some (.int .i64 r.pos) := h.blk.cell rfl
  by_cases hc : r.code = 0
  · have e0 : ((r.code : Int) != 0) = false := by rw [hc]; rfl
    have e1 : (r.code : Int) = 0 := by omega
    by_cases hl : 0 < r.left
    · have hf : r.fin = some (7, r.pos) := by unfold Rdr.fin; rw [if_neg (by simpa using hc), if_pos hl]
      have HF := Lib.hid hf
      have HM := Lib.hid h
      have hl2 : (0 : Int) < (r.left : Int) := by omega
      clear hf h hc
      go_enter Tryz.func102, Tryz.ntmps102
      go_wp2_with fail
      refine (left_calls w b A c r HM.out h8).mono ?_
      rintro e w1 ⟨rfl, rfl⟩
      go_wp2_with fail
      refine (fault_new w.drew 7 r.pos (by decide)).mono ?_
      rintro e w2 ⟨⟨v, rfl, hv⟩, hb⟩
      have HV := Lib.hid hv
      have HB := Lib.hid hb
      clear hv hb
      go_wp2
      go_ret
      rw [HF.out]
      exact ⟨⟨v, rfl, HV.out⟩, (Below.refl w.heap.size w).drew.trans HB.out⟩
    · have hf : r.fin = none := by unfold Rdr.fin; rw [if_neg (by simpa using hc), if_neg hl]
      have HF := Lib.hid hf
      have HM := Lib.hid h
      have hl2 : ¬ (0 : Int) < (r.left : Int) := by omega
      clear hf h hc
      go_enter Tryz.func102, Tryz.ntmps102
      go_wp2_with fail
      refine (left_calls w b A c r HM.out h8).mono ?_
      rintro e w1 ⟨rfl, rfl⟩
      go_wp2
      go_ret
      rw [HF.out]
      exact ⟨⟨_, rfl, rfl⟩, (Below.refl w.heap.size w).drew⟩
  · have e0 : ((r.code : Int) != 0) = true := by rw [bne_iff_ne]; omega
    have e1 : ¬ (r.code : Int) = 0 := by omega
    have hf : r.fin = some (r.code, r.pos) := by unfold Rdr.fin; rw [if_pos (by simpa using hc)]
    have hc1 : 1 ≤ r.code := by omega
    have HF := Lib.hid hf
    have hbk := h.blk.lt
    have M2 : Hid (∀ w', Below w.drew.heap.size w.drew w' → w'.cell? ⟨b, 2, none⟩ = some (.int .i64 (r.code : Int))) := fun w' hb => (hb.cell (p := ⟨b, 2, none⟩) hbk).trans c2
    have M1 : Hid (∀ w', Below w.drew.heap.size w.drew w' → w'.cell? ⟨b, 1, none⟩ = some (.int .i64 (r.pos : Int))) := fun w' hb => (hb.cell (p := ⟨b, 1, none⟩) hbk).trans c1
    have SF : Hid (∀ w', Below w.drew.heap.size w.drew w' → Calls Tryz.prog 30 #[.int .i64 (r.code : Int), .int .i64 (r.pos : Int)] w' fun e w'' => ∃ v, e = .returned v ∧ (errVD r.code r.pos).ok v w'' ∧ Below w'.heap.size w' w'') :=
      fun w' _ => (fault_new w' r.code r.pos hc1).mono fun e w'' ⟨⟨v, he, hv⟩, hb⟩ => ⟨v, he, hv, hb⟩
    clear hf h hc
    go_enter Tryz.func102, Tryz.ntmps102
    go_wp2_with fail
    clear c1 c2
    refine region_monos (fun i => ([.is (.pointer (some ⟨b, 0, none⟩)), .is (.pointer (some ⟨b, 0, none⟩)), .is (.pointer (some ⟨b, 2, none⟩)), .is (.int .i64 (r.code : Int)), .is (.pointer (some ⟨b, 0, none⟩)), .is (.pointer (some ⟨b, 0, none⟩)), .is (.pointer (some ⟨b, 1, none⟩)), .is (.int .i64 (r.pos : Int)), (errVD r.code r.pos), (errVD r.code r.pos)] : List VD).getD i (.is undef)) [some 8, some 9, some 10, some 11, some 12, some 13, some 14, some 15, some 16, some 2] (by kernel_rfl) (by kernel_rfl) (by kernel_rfl) rfl (fun ii hii => ?_) ?_
    · match ii, hii with
      | 0, _ => exact mstep_first rfl (mwant_none rfl) 0 (Or.inl rfl) (by kernel_rfl) (fun _ _ => rfl)
      | 1, _ => exact mstep_pure rfl (mwant_none rfl) (fun aa ww cc => ⟨.pointer (some ⟨b, 0, none⟩), by have e0 : aa.tmps.getD 8 undef = .pointer (some ⟨b, 0, none⟩) := cc.slot 0 8 (by kernel_rfl) rfl; simp only [execOp, Act.eval]; go_simp, rfl⟩)
      | 2, _ => exact mstep_pure rfl (mwant_none rfl) (fun aa ww cc => ⟨.pointer (some ⟨b, 2, none⟩), by have e0 : aa.tmps.getD 9 undef = .pointer (some ⟨b, 0, none⟩) := cc.slot 1 9 (by kernel_rfl) rfl; simp only [execOp, Act.eval]; go_simp, rfl⟩)
      | 3, _ => exact mstep_pure rfl (mwant_none rfl) (fun aa ww cc => ⟨.int .i64 (r.code : Int), by have e0 : aa.tmps.getD 10 undef = .pointer (some ⟨b, 2, none⟩) := cc.slot 2 10 (by kernel_rfl) rfl; have m := M2.out _ cc.below; simp only [execOp, Act.eval]; go_simp, rfl⟩)
      | 4, _ => exact mstep_first rfl (mwant_none rfl) 0 (Or.inl rfl) (by kernel_rfl) (fun _ _ => rfl)
      | 5, _ => exact mstep_pure rfl (mwant_none rfl) (fun aa ww cc => ⟨.pointer (some ⟨b, 0, none⟩), by have e0 : aa.tmps.getD 12 undef = .pointer (some ⟨b, 0, none⟩) := cc.slot 4 12 (by kernel_rfl) rfl; simp only [execOp, Act.eval]; go_simp, rfl⟩)
      | 6, _ => exact mstep_pure rfl (mwant_none rfl) (fun aa ww cc => ⟨.pointer (some ⟨b, 1, none⟩), by have e0 : aa.tmps.getD 13 undef = .pointer (some ⟨b, 0, none⟩) := cc.slot 5 13 (by kernel_rfl) rfl; simp only [execOp, Act.eval]; go_simp, rfl⟩)
      | 7, _ => exact mstep_pure rfl (mwant_none rfl) (fun aa ww cc => ⟨.int .i64 (r.pos : Int), by have e0 : aa.tmps.getD 14 undef = .pointer (some ⟨b, 1, none⟩) := cc.slot 6 14 (by kernel_rfl) rfl; have m := M1.out _ cc.below; simp only [execOp, Act.eval]; go_simp, rfl⟩)
      | 8, _ => exact mstep_call rfl (mwant_none rfl) _ _ _ rfl (enters_of Tryz.func30 (by kernel_rfl) rfl) (fun aa ww cc => by have e0 : aa.tmps.getD 11 undef = .int .i64 (r.code : Int) := cc.slot 3 11 (by kernel_rfl) rfl; have e1 : aa.tmps.getD 15 undef = .int .i64 (r.pos : Int) := cc.slot 7 15 (by kernel_rfl) rfl; simp only [List.map_toArray, List.map_cons, List.map_nil, Act.eval, e0, e1]; exact (SF.out) ww cc.below)
      | 9, _ => exact mstep_copy rfl (mwant_none rfl) 16 (Or.inr rfl) 8 (by kernel_rfl) rfl rfl
      | n + 10, h => exact absurd h (by show ¬ (n + 10 < 10); omega)
    · intro VV w5 hlen hb5 hok
      match VV, hlen with
      | [v0, v1, v2, v3, v4, v5, v6, v7, v8, v9], _ =>
        obtain rfl : v0 = .pointer (some ⟨b, 0, none⟩) := hok 0 8 rfl
        obtain rfl : v1 = .pointer (some ⟨b, 0, none⟩) := hok 1 9 rfl
        obtain rfl : v2 = .pointer (some ⟨b, 2, none⟩) := hok 2 10 rfl
        obtain rfl : v3 = .int .i64 (r.code : Int) := hok 3 11 rfl
        obtain rfl : v4 = .pointer (some ⟨b, 0, none⟩) := hok 4 12 rfl
        obtain rfl : v5 = .pointer (some ⟨b, 0, none⟩) := hok 5 13 rfl
        obtain rfl : v6 = .pointer (some ⟨b, 1, none⟩) := hok 6 14 rfl
        obtain rfl : v7 = .int .i64 (r.pos : Int) := hok 7 15 rfl
        have p8 := hok 8 16 rfl
        have p9 := hok 9 2 rfl
        have HV : Hid (ErrV (some (r.code, r.pos)) v9 w5) := p9
        have HB5 : Hid (Below w.heap.size w w5) := hb5
        clear hok hb5 p8 p9 M1 M2 SF
        refine (by assumption : ∀ (a : Act) (w : World), Code.wp _ _ _ a w → _) _ _ ?_
        simp only [List.zip_cons_cons, List.zip_nil_right, putsL]
        go_simp
        go_wp2
        go_ret
        rw [HF.out]
        exact ⟨⟨v9, rfl, HV.out⟩, HB5.out⟩
end Go.Proofs.YtjfpoahmjgeogaaGreatDoor
/- A region that draws its order, in full: of each slot what its value is or reads as, kept along a relation of worlds that every operation holds; of the world what holds while just some operations have been run; the last operations, from p on, as a list. Over whatever program. -/
namespace Nac
open Go Go.RowKit
inductive RD (R : World → World → Prop) where
  | is (v : Value)
  | pr (p : Value → World → Prop) (hm : ∀ v w w', p v w → R w w' → p v w')
def RD.ok {R : World → World → Prop} : RD R → Value → World → Prop
  | .is u, v, _ => v = u
  | .pr p _, v, w => p v w
theorem RD.keep {R : World → World → Prop} (d : RD R) (v : Value) (w w' : World) (h : d.ok v w) (hb : R w w') : d.ok v w' := by
  cases d with
  | is u => exact h
  | pr p hm => exact hm v w w' h hb
section
variable {P : Program} {ops : Array Oper} {Q : Exit → Act → World → Prop} {R : World → World → Prop} {D : Nat → RD R} {J : (Nat → Bool) → World → Prop} {a0 : Act}
structure RCtx (ops : Array Oper) (R : World → World → Prop) (D : Nat → RD R) (J : (Nat → Bool) → World → Prop) (a0 : Act) (i : Nat) (L : Nat → Bool) (a : Act) (w : World) : Prop where
  world : J L w
  tsize : a.tmps.size = a0.tmps.size
  fresh : L i = false
  ahead : ∀ k, k ∈ preds ops 3 i → L k = true
  pred : ∀ k d, k ∈ preds ops 3 i → dstOf ops k = some d → (D k).ok (a.tmps.getD d undef) w
  orig : ∀ t, origB ops i t = true → a.tmps.getD t undef = a0.tmps.getD t undef
def RStep (P : Program) (ops : Array Oper) (Q : Exit → Act → World → Prop) (R : World → World → Prop) (D : Nat → RD R) (J : (Nat → Bool) → World → Prop) (a0 : Act) (i : Nat) : Prop :=
  ∀ o, ops[i]? = some o → ∀ L a w, RCtx ops R D J a0 i L a w →
    if Region.wanted o (yielded ops a.tmps) = true then o.wp P a w (fun a' w' => ∃ v, a' = a.put o.dst v ∧ (D i).ok v w' ∧ R w w' ∧ J (upd L i) w') Q else (D i).ok undef w ∧ J (upd L i) w
theorem rel_any {p : Nat} (hrefl : ∀ w, R w w) (hch : chainB ops p = true) (hd : distinctB ops a0.tmps.size = true) (hbk : backB ops = true)
    (step : ∀ i, i < p → RStep P ops Q R D J a0 i)
    (fin : ∀ L a w, (∀ i, i < p → L i = true) → J L w → a.defers = a0.defers → a.tmps.size = a0.tmps.size → (∀ i d, i < p → dstOf ops i = some d → (D i).ok (a.tmps.getD d undef) w) → (∀ t, (∀ i, i < p → dstOf ops i ≠ some t) → a.tmps.getD t undef = a0.tmps.getD t undef) → wpList P ops Q (ops.toList.drop p) a w) :
    ∀ (fuel : Nat) (listed : Array Bool) (a : Act) (w : World), falses listed ≤ fuel → (∀ j, p ≤ j → listed.getD j false = false) → VInv ops (fun _ _ => True) (fun _ _ => True) a0 listed a w → J (fun i => listed.getD i false) w → (∀ i d, listed.getD i false = true → dstOf ops i = some d → (D i).ok (a.tmps.getD d undef) w) → wpAny P .any ops Q fuel listed a w := by
  have hps : p ≤ ops.size := by
    unfold chainB at hch
    rw [Bool.and_eq_true] at hch
    simpa using hch.1
  have hdist : ∀ x y d, x < ops.size → y < ops.size → dstOf ops x = some d → (d < a0.tmps.size) ∧ (dstOf ops y = some d → x = y) := by
    intro x y d hx hy hxd
    unfold distinctB at hd
    rw [List.all_eq_true] at hd
    have h1 := hd x (by simpa using hx)
    rw [Bool.and_eq_true, List.all_eq_true] at h1
    obtain ⟨h1, h2⟩ := h1
    have h2 := h2 y (by simpa using hy)
    rw [hxd] at h1 h2
    refine ⟨by simpa using h1, fun hyd => ?_⟩
    rw [hyd] at h2
    simpa using h2
  have hin : ∀ k d, dstOf ops k = some d → k < ops.size := by
    intro k d hk
    rcases Nat.lt_or_ge k ops.size with h | h
    · exact h
    · simp [dstOf, Array.getElem?_eq_none h] at hk
  have hall : ∀ (fuel : Nat) (listed : Array Bool) (a : Act) (w : World), falses listed ≤ fuel → (∀ j, p ≤ j → listed.getD j false = false) → VInv ops (fun _ _ => True) (fun _ _ => True) a0 listed a w → J (fun i => listed.getD i false) w → (∀ i d, listed.getD i false = true → dstOf ops i = some d → (D i).ok (a.tmps.getD d undef) w) → (∀ j, j < p → listed.getD j false = true) → wpAny P .any ops Q fuel listed a w := by
    intro fuel listed a w hf hz hI hJ hD hl
    refine tail_any hch hbk fuel listed a w p (Nat.le_refl _) hps hI.size hf hl hz hI.closed ?_
    refine fin _ a w (fun i hi => hl i hi) hJ hI.defers hI.tsize (fun i d hi h => hD i d (hl i hi) h) (fun t ht => hI.rest t fun i hli => ht i ?_)
    rcases Nat.lt_or_ge i p with h | h
    · exact h
    · rw [hz i h] at hli; cases hli
  intro fuel
  induction fuel with
  | zero =>
    intro listed a w hf hz hI hJ hD
    exact hall 0 listed a w hf hz hI hJ hD fun i hi => falses_zero listed (by omega) i (by rw [hI.size]; omega)
  | succ fuel ih =>
  intro listed a w hf hz hI hJ hD
  by_cases hdone : ∀ j, j < p → listed.getD j false = true
  · exact hall _ listed a w hf hz hI hJ hD hdone
  have hnd : ∃ j, j < p ∧ listed.getD j false = false := by
    apply Classical.byContradiction
    intro h
    refine hdone fun j hj => ?_
    cases hb : listed.getD j false
    · exact absurd ⟨j, hj, hb⟩ h
    · rfl
  obtain ⟨j0, hj0, hl0⟩ := hnd
  refine ⟨fun hr => absurd hr (ready_ex hbk hI.size j0 (by omega) hl0), fun i hi => ?_⟩
  obtain ⟨h1, h2, o, ho, hready⟩ := ready_of hi hI.size
  have hip : i < p := by
    rcases Nat.lt_or_ge i p with h | h
    · exact h
    · have := chain_listed hch hI.closed h1 h (fun o' ho' => by rw [ho] at ho'; obtain rfl := Option.some.inj ho'; exact hready) j0 (by omega)
      rw [hl0] at this
      cases this
  have hctx : RCtx ops R D J a0 i (fun k => listed.getD k false) a w := by
    have hpc := preds_closed hI.closed 3 i (fun o' ho' => by rw [ho] at ho'; obtain rfl := Option.some.inj ho'; exact hready)
    refine ⟨hJ, hI.tsize, h2, hpc, fun k d hk hkd => hD k d (hpc k hk) hkd, fun t ht => hI.rest t fun k hl hkd => ?_⟩
    unfold origB at ht
    rw [List.all_eq_true] at ht
    have h3 := ht k (by simpa using hin k t hkd)
    rw [hkd] at h3
    simp only [bne_self_eq_false, Bool.false_or, List.contains_iff_mem] at h3
    have := preds_closed hI.closed 3 k (fun o' ho' e he hb' => hI.closed k o' ho' hl e he hb') i h3
    rw [h2] at this
    cases this
  have hs := step i hip o ho _ a w hctx
  have hfl : falses (listed.setIfInBounds i true) ≤ fuel := by
    have := falses_set listed i (by rw [hI.size]; exact h1) h2
    omega
  have hls : i < listed.size := by rw [hI.size]; exact h1
  have hz' : ∀ j, p ≤ j → (listed.setIfInBounds i true).getD j false = false := fun j hj => by
    rw [getD_setIf _ _ _ hls, if_neg (by omega)]
    exact hz j hj
  have hup : (fun k => (listed.setIfInBounds i true).getD k false) = upd (fun k => listed.getD k false) i := upd_listed _ _ hls
  have hdo : dstOf ops i = o.dst := by simp [dstOf, ho]
  have hnext : ∀ v w', (D i).ok v w' → R w w' → ∀ j d, (listed.setIfInBounds i true).getD j false = true → dstOf ops j = some d → (D j).ok ((a.put o.dst v).tmps.getD d undef) w' := by
    intro v w' hv hR j d hl hjd
    rw [getD_setIf _ _ _ hls] at hl
    have hput : (a.put o.dst v).tmps.getD d undef = if o.dst = some d then v else a.tmps.getD d undef := by
      cases hod : o.dst with
      | none => simp [Act.put]
      | some d' =>
        have hlt := (hdist i i d' h1 h1 (by rw [hdo, hod])).1
        simp only [Act.put]
        rw [getD_put _ _ _ _ (by rw [hI.tsize]; exact hlt)]
        simp
    rw [hput]
    by_cases hij : i = j
    · subst hij
      rw [hdo] at hjd
      rw [if_pos hjd]
      exact hv
    · rw [if_neg hij] at hl
      rw [if_neg (fun h => hij ((hdist i j d h1 (hin j d hjd) (by rw [hdo]; exact h)).2 hjd))]
      exact RD.keep _ _ _ _ (hD j d hl hjd) hR
  unfold wpOp
  rw [ho]
  simp only
  split
  · rename_i hw
    rw [if_pos hw] at hs
    refine Or.inl (Oper.wp_mono ?_ hs)
    rintro a' w' ⟨v, rfl, hv, hR, hb⟩
    exact ih _ _ _ hfl hz' (val_put (v := v) hI h1 ho hd hready trivial trivial) (by rw [hup]; exact hb) (hnext v w' hv hR)
  · rename_i hw
    rw [if_neg hw] at hs
    exact ih _ _ _ hfl hz' (val_put (v := undef) hI h1 ho hd hready trivial trivial) (by rw [hup]; exact hs.2) (hnext undef w hs.1 (hrefl w))
theorem region_rel {id : Nat} {a0 : Act} {w0 : World} (p : Nat) (R : World → World → Prop) (D : Nat → RD R) (ds : List (Option Tmp)) (J : (Nat → Bool) → World → Prop) (hrefl : ∀ w, R w w) (hm : P.follows .mixedOrders = true) (hd : distinctB ops a0.tmps.size = true) (hbk : backB ops = true)
    (hch : chainB ops p = true) (hds : (ops.toList.take p).map (·.dst) = ds)
    (h0 : J (fun _ => false) w0.drew)
    (step : ∀ i, i < p → RStep P ops Q R D J a0 i)
    (fin : ∀ L V w, (∀ i, i < p → L i = true) → V.length = ds.length → J L w → (∀ i d, ds[i]? = some (some d) → (D i).ok (V.getD i undef) w) → wpList P ops Q (ops.toList.drop p) (putsL (ds.zip V) a0) w) :
    (Code.region id ops true).wp P Q a0 w0 := by
  refine wp_region_any hm ?_
  have hps : p ≤ ops.size := by
    unfold chainB at hch
    rw [Bool.and_eq_true] at hch
    simpa using hch.1
  have hg : ∀ i, (Array.replicate ops.size false).getD i false = false := by
    intro i
    rw [Array.getD_eq_getD_getElem?, Array.getElem?_replicate]
    split <;> rfl
  refine rel_any (D := D) (J := J) (a0 := a0) hrefl hch hd hbk step (fun L a w hall hJ hde hts hs hr => ?_) _ _ _ _ ?_ (fun j _ => hg j) ⟨by simp, trivial, rfl, rfl, fun i o _ h => (by rw [hg] at h; cases h), fun i d h => (by rw [hg] at h; cases h), fun _ _ => rfl⟩ ?_ (fun i d h => by rw [hg] at h; cases h)
  · have hlt : ∀ i x, ds[i]? = some x → i < p := by
      intro i x h
      have := (List.getElem?_eq_some_iff.1 h).1
      rw [← hds] at this
      simp at this
      omega
    have hdi : ∀ i d, ds[i]? = some (some d) → dstOf ops i = some d := by
      intro i d h
      have hi := hlt i _ h
      rw [← hds, List.getElem?_map, List.getElem?_take_of_lt hi, Array.getElem?_toList] at h
      unfold dstOf
      cases ho : ops[i]? with
      | none => rw [ho] at h; cases h
      | some o => rw [ho] at h; simpa using h
    have hdi' : ∀ i d, i < p → dstOf ops i = some d → ds[i]? = some (some d) := by
      intro i d hi h
      rw [← hds, List.getElem?_map, List.getElem?_take_of_lt hi, Array.getElem?_toList]
      unfold dstOf at h
      cases ho : ops[i]? with
      | none => rw [ho] at h; cases h
      | some o => rw [ho] at h; simpa using h
    have e := putsL_eq (a0 := a0) (a := a) (l := ds.zip (slotsOf a.tmps ds)) hde hts ?_ ?_
    · have hf := fin L (slotsOf a.tmps ds) w hall (by simp [slotsOf]) hJ fun i d h => by
        have := hs i d (hlt i _ h) (hdi i d h)
        have e2 : (slotsOf a.tmps ds).getD i undef = a.tmps.getD d undef := by
          unfold slotsOf
          rw [List.getD_eq_getElem?_getD, List.getElem?_map, h]
          rfl
        rw [e2]
        exact this
      rw [← e] at hf
      exact hf
    · intro x hx t ht
      obtain ⟨i, hi⟩ := List.mem_iff_getElem?.1 hx
      obtain ⟨h1, h2⟩ := List.getElem?_zip_eq_some.1 hi
      unfold slotsOf at h2
      rw [List.getElem?_map, h1] at h2
      obtain ⟨d, v⟩ := x
      simp only at ht h1 h2
      subst ht
      simpa using h2
    · intro t ht
      refine hr t fun i hip hdt => ?_
      have h1 := hdi' i t hip hdt
      have h3 : (slotsOf a.tmps ds)[i]? = some (a.tmps.getD t undef) := by
        unfold slotsOf
        rw [List.getElem?_map, h1]
        rfl
      exact ht (some t, a.tmps.getD t undef) (List.mem_iff_getElem?.2 ⟨i, List.getElem?_zip_eq_some.2 ⟨h1, h3⟩⟩) rfl
  · unfold falses
    simp
  · rw [show (fun i => (Array.replicate ops.size false).getD i false) = fun _ => false from funext hg]
    exact h0
theorem RCtx.slot {i : Nat} {L : Nat → Bool} {a : Act} {w : World} (c : RCtx ops R D J a0 i L a w) (k x : Nat) (hk : (preds ops 3 i).contains k = true) (hx : dstOf ops k = some x) : (D k).ok (a.tmps.getD x undef) w :=
  c.pred k x (by simpa using hk) hx
/-! ### one operation -/
variable {i : Nat} {o : Oper}
theorem rwant_none (hg : o.guard = none) : ∀ L a w, RCtx ops R D J a0 i L a w → Region.wanted o (yielded ops a.tmps) = true := fun _ _ _ _ => by simp [Region.wanted, hg]
theorem rstep_pure (hrefl : ∀ w, R w w) (ho : ops[i]? = some o) (hw : ∀ L a w, RCtx ops R D J a0 i L a w → Region.wanted o (yielded ops a.tmps) = true) (hJ : ∀ L w, J L w → J (upd L i) w)
    (h : ∀ L a w, RCtx ops R D J a0 i L a w → ∃ v, (execOp a.eval o).run P w = .ok (.value v) w ∧ (D i).ok v w) : RStep P ops Q R D J a0 i := by
  intro o' ho' L a w c
  rw [ho] at ho'
  obtain rfl := Option.some.inj ho'
  rw [if_pos (hw L a w c)]
  obtain ⟨v, hr, hv⟩ := h L a w c
  unfold Oper.wp
  rw [hr]
  exact ⟨v, rfl, hv, hrefl w, hJ _ _ c.world⟩
theorem rstep_first (hrefl : ∀ w, R w w) (ho : ops[i]? = some o) (hw : ∀ L a w, RCtx ops R D J a0 i L a w → Region.wanted o (yielded ops a.tmps) = true) (hJ : ∀ L w, J L w → J (upd L i) w) (t : Tmp) (hop : o.op = .move (.tmp t) ∨ o.op = .assign (.tmp t))
    (ht : origB ops i t = true) (hD : ∀ w, (D i).ok (a0.tmps.getD t undef) w) : RStep P ops Q R D J a0 i :=
  rstep_pure hrefl ho hw hJ fun L a w c => ⟨a.tmps.getD t undef, by rcases hop with h | h <;> simp [execOp, h, Act.eval], by rw [c.orig t ht]; exact hD w⟩
theorem rstep_call (ho : ops[i]? = some o) (hw : ∀ L a w, RCtx ops R D J a0 i L a w → Region.wanted o (yielded ops a.tmps) = true) (f : FuncId) (args : Array Operand) (ts : Array TypeId)
    (hop : o.op = .call { callee := .value (.func f), args := args, argTypes := ts }) (he : ∀ vs w, (callFunc f vs).run P w = .ok (.enter f vs) w)
    (h : ∀ L a w, RCtx ops R D J a0 i L a w → Calls P f (args.map a.eval) w fun e w' => ∃ v, e = .returned v ∧ (D i).ok v w' ∧ R w w' ∧ J (upd L i) w') : RStep P ops Q R D J a0 i := by
  intro o' ho' L a w c
  rw [ho] at ho'
  obtain rfl := Option.some.inj ho'
  rw [if_pos (hw L a w c)]
  have hr : (execOp a.eval o).run P w = .ok (.enter f (args.map a.eval)) w := by
    simp [execOp, hop, resolve, Deferred.ofValue, Act.eval, invoke, he]
  unfold Oper.wp
  rw [hr]
  refine (h L a w c).mono ?_
  rintro e w' ⟨v, rfl, hv, hb⟩
  exact ⟨v, rfl, hv, hb⟩
end
end Nac
/- octet's reader: Bytes; Must that fails; a region that draws its order and holds one call that writes. -/
namespace Nac
open Go Go.RowKit
def OneJ (ic : Nat) (P0 P1 : World → Prop) (L : Nat → Bool) (w : World) : Prop := (L ic = false → P0 w) ∧ (L ic = true → P1 w)
theorem OneJ.pure {ic : Nat} {P0 P1 : World → Prop} {i : Nat} (h : i ≠ ic) (L : Nat → Bool) (w : World) (hj : OneJ ic P0 P1 L w) : OneJ ic P0 P1 (upd L i) w := by
  have e : upd L i ic = L ic := by unfold upd; rw [if_neg (fun e => h e.symm)]
  exact ⟨fun hh => hj.1 (e ▸ hh), fun hh => hj.2 (e ▸ hh)⟩
theorem OneJ.start {ic : Nat} {P0 P1 : World → Prop} {w : World} (h : P0 w) : OneJ ic P0 P1 (fun _ => false) w := ⟨fun _ => h, fun h => by cases h⟩
theorem OneJ.done {ic : Nat} {P0 P1 : World → Prop} {L : Nat → Bool} {w : World} (h : P1 w) : OneJ ic P0 P1 (upd L ic) w := ⟨fun hh => (by unfold upd at hh; rw [if_pos rfl] at hh; cases hh), fun _ => h⟩
theorem Rdr.num_at {l : List UInt8} {p k : Nat} (h1 : 1 ≤ k) (h8 : k ≤ 8) (hl : p + k ≤ l.length) : (⟨l, p, 0⟩ : Rdr).num (k : Int) = (⟨l, p + k, 0⟩, Nac.Crc.le ((l.drop p).take k)) := by
  unfold Rdr.num
  rw [if_neg (by omega)]
  have e : (⟨l, p, 0⟩ : Rdr).take (k : Int).toNat = (⟨l, p + k, 0⟩, some ((l.drop p).take k)) := by
    unfold Rdr.take Rdr.left
    rw [if_neg (by simp), if_neg (by show ¬ l.length - p < _; simp; omega)]
    simp
  rw [e]
  rfl
theorem Rdr.num_bad {l : List UInt8} {p c k : Nat} (h1 : 1 ≤ k) (h8 : k ≤ 8) (hc : c ≠ 0) : (⟨l, p, c⟩ : Rdr).num (k : Int) = (⟨l, p, c⟩, 0) := by
  unfold Rdr.num
  rw [if_neg (by omega)]
  have e : (⟨l, p, c⟩ : Rdr).take (k : Int).toNat = (⟨l, p, c⟩, none) := by
    unfold Rdr.take
    rw [if_pos hc]
  rw [e]
  rfl
end Nac
namespace Go.Proofs.YtjfpoahmjgeogaaGreatDoor
open Go.RowKit Nac Nac.Crc
def RetBytes (w : World) (b : Nat) (A : Option Addr) (c : Nat) (r : Rdr) (n : Nat) (e : Ending) (w' : World) : Prop :=
  ∃ A' c', e = .returned (.slice A' n c') ∧ OB w' w.heap.size A' c' ((r.l.drop r.pos).take n) ∧ RdM w' b A c { r with pos := r.pos + n } ∧ w.grownBy w' (some b)
set_option maxHeartbeats 1000000 in
theorem bytes_calls (w : World) (b : Nat) (A : Option Addr) (c : Nat) (r : Rdr) (h : RdM w b A c r) (h8 : r.l.length ≤ 140737488351232) (n : Nat) (hc : r.code = 0) (hl : n ≤ r.left) :
    Calls Tryz.prog 81 #[.pointer (some ⟨b, 0, none⟩), .int .i64 n] w (RetBytes w b A c r n) := by
  have hle : r.left ≤ r.l.length := Nat.sub_le _ _
  have ht : r.take n = ({ r with pos := r.pos + n }, some ((r.l.drop r.pos).take n)) := by unfold Rdr.take; rw [if_neg (by simpa using hc), if_neg (by omega)]
  have hbl : ((r.l.drop r.pos).take n).length = n := by unfold Rdr.left at hl; simp; omega
  obtain ⟨bs, hbs⟩ : ∃ bs, bs = (r.l.drop r.pos).take n := ⟨_, rfl⟩
  rw [← hbs] at ht hbl
  have HT := Lib.hid ht
  have HBL := Lib.hid hbl
  have HBS := Lib.hid hbs
  have HM := Lib.hid h
  have hn9 : n ≤ 140737488351232 := by omega
  clear ht hbl hbs h hc hl hle
  go_enter Tryz.func81, Tryz.ntmps81
  go_wp2_with fail
  refine (take_calls w b A c r HM.out h8 n hn9).mono ?_
  rintro e w1 ⟨hv, hm1, hg1⟩
  rw [HT.out] at hv hm1
  obtain ⟨A2, c2, rfl, hc2, hrb⟩ := hv
  have HM1 := Lib.hid hm1
  have HG1 := Lib.hid hg1
  have HR := Lib.hid hrb
  have hbw : Hid (b ≤ w1.heap.size) := Lib.hid <| by have := HM1.out.blk.lt; omega
  have H9 : Hid (bs.length ≤ 140737488351232) := Lib.hid <| by rw [HBL.out]; exact hn9
  clear hm1 hg1 hrb hc2
  go_wp2_with (at_builtin; refine wpList_app_bytes _ rfl _ _ rfl w1.heap.size none 0 [] _ rfl rfl (OB.nil _ _) A2 c2 bs _ rfl rfl HR.out (by have := H9.out; simp; omega) (Nat.le_refl _) ?_)
  intro A' c' L w2 HL ho hg _
  have hL : L = bs := HL.out
  subst hL
  have HO := Lib.hid ho
  have HG : Hid (w1.grownBy w2 (some b)) := Lib.hid (grown_none hg)
  have HB2 : Hid (Below w1.heap.size w1 w2) := (Below.refl _ _).grown hg (Nat.le_refl _) (fun k e => by cases e)
  clear HL ho hg
  go_wp2
  go_ret
  refine ⟨A', c', by rw [HBL.out]; rfl, ?_, HM1.out.below HB2.out HM1.out.blk.lt, HG1.out.trans HG.out⟩
  rw [← HBS.out]
  exact HO.out.mono HG1.out.size
def RetBytes0 (w : World) (b : Nat) (A : Option Addr) (c : Nat) (r : Rdr) (e : Ending) (w' : World) : Prop := e = .returned (.slice none 0 0) ∧ RdM w' b A c r ∧ w.grownBy w' (some b)
set_option maxHeartbeats 1000000 in
theorem bytes_bad (w : World) (b : Nat) (A : Option Addr) (c : Nat) (r : Rdr) (h : RdM w b A c r) (h8 : r.l.length ≤ 140737488351232) (n : Nat) (hc : r.code ≠ 0) (hn : n ≤ 1000000) :
    Calls Tryz.prog 81 #[.pointer (some ⟨b, 0, none⟩), .int .i64 n] w (RetBytes0 w b A c r) := by
  have ht : r.take n = (r, none) := by unfold Rdr.take; rw [if_pos hc]
  have HT := Lib.hid ht
  have HM := Lib.hid h
  clear ht h hc
  go_enter Tryz.func81, Tryz.ntmps81
  go_wp2_with fail
  refine (take_calls w b A c r HM.out h8 n (by omega)).mono ?_
  rintro e w1 ⟨hv, hm1, hg1⟩
  rw [HT.out] at hv hm1
  have hv : e = .returned (.tuple #[.slice none 0 0, .bool false]) := hv
  subst hv
  have HR : Hid (RdM w1 b A c r ∧ w.grownBy w1 (some b)) := Lib.hid ⟨hm1, hg1⟩
  clear hm1 hg1
  go_wp2
  go_ret
  exact ⟨rfl, HR.out⟩
theorem must_calls_true (w : World) (b : Nat) (k : Int) : Calls Tryz.prog 101 #[.pointer (some ⟨b, 0, none⟩), .bool true, .int .i64 k] w fun e w' => e = .returned (.tuple #[]) ∧ w = w' := by
  go_enter Tryz.func101, Tryz.ntmps101
  go_wp2
  first | (go_ret; exact ⟨rfl, rfl⟩) | exact bodyPost_ret (v := .tuple #[]) (by simp [results, Tryz.results101, go_sem]) rfl ⟨rfl, rfl⟩ | skip
def RetMu (w : World) (b : Nat) (A : Option Addr) (c : Nat) (r : Rdr) (e : Ending) (w' : World) : Prop := e = .returned (.tuple #[]) ∧ RdM w' b A c r ∧ w.grownBy w' (some b)
set_option maxHeartbeats 1000000 in
theorem must_calls_false (w : World) (b : Nat) (A : Option Addr) (c : Nat) (r : Rdr) (h : RdM w b A c r) : Calls Tryz.prog 101 #[.pointer (some ⟨b, 0, none⟩), .bool false, .int .i64 3] w (RetMu w b A c (r.fail 3)) := by
  have HF := Lib.hid (fail_calls w b A c r h 3)
  clear h
  go_enter Tryz.func101, Tryz.ntmps101
  go_wp2_with fail
  refine HF.out.mono ?_
  rintro e w2 ⟨rfl, hm2, hg2⟩
  have HR : Hid (RdM w2 b A c (r.fail 3) ∧ w.grownBy w2 (some b)) := Lib.hid ⟨hm2, hg2⟩
  clear hm2 hg2
  go_wp2
  exact bodyPost_ret (v := .tuple #[]) (by simp [results, Tryz.results101, go_sem]) rfl ⟨rfl, HR.out⟩
end Go.Proofs.YtjfpoahmjgeogaaGreatDoor
/- image: Decode. -/
namespace Nac.Img
open Nac.Crc
theorem decM_none {l : List UInt8} (h : l.head? ≠ some 77) : decM l = none := by
  unfold decM
  rw [if_neg (fun e => h e.1)]
theorem decM_40 {l : List UInt8} (h : l.head? = some 77) (h40 : l.length = 40) : decM l = if (⟨(le (cut l 1 1) : Nat), le (cut l 2 4), (le (cut l 6 2) : Nat), cut l 8 32⟩ : Man).okB = true then some ⟨(le (cut l 1 1) : Nat), le (cut l 2 4), (le (cut l 6 2) : Nat), cut l 8 32⟩ else none := by
  unfold decM
  by_cases hk : (⟨(le (cut l 1 1) : Nat), le (cut l 2 4), (le (cut l 6 2) : Nat), cut l 8 32⟩ : Man).okB = true
  · rw [if_pos ⟨h, h40, hk⟩, if_pos hk]
  · rw [if_neg (fun e => hk e.2.2), if_neg hk]
theorem cut_lt (l : List UInt8) (a n : Nat) : le (cut l a n) < 256 ^ n := by
  refine Nat.lt_of_lt_of_le (le_lt _) (Nat.pow_le_pow_right (by decide) ?_)
  unfold cut
  rw [List.length_take]
  exact Nat.min_le_left _ _
theorem head_le {l : List UInt8} (h : 1 ≤ l.length) : (l.head? = some 77) ↔ le ((l.drop 0).take 1) = 77 := by
  cases l with
  | nil => simp at h
  | cons x l =>
  simp [le]
  constructor
  · rintro rfl; rfl
  · intro h; exact UInt8.toNat_inj.1 h
end Nac.Img
namespace Go.Proofs.YtjfpoahmjgeogaaGreatDoor
open Go.RowKit Nac Nac.Img Nac.Sha Nac.Crc
theorem run_arrAll {T E : TypeId} {n : Nat} (hA : AInfo T E n) (hn : 0 < n) (w : World) (b p : Nat) : (Instr.sliceAt T (.pointer (some ⟨b, p, none⟩)) none none none).run Tryz.prog w = .ok (.slice (some ⟨b, p, none⟩) n n) w := by
  have hr := run_sliceAt_array_all (P := Tryz.prog) w T ⟨b, p, none⟩ (by rw [hA.len, hA.elem]; exact hA.und)
  rw [hA.elem, hA.size, hA.len] at hr
  have e : slicedAt ⟨b, p, none⟩ 0 n n 1 = .slice (some ⟨b, p, none⟩) n n := by
    unfold slicedAt
    rw [if_neg (by omega)]
    simp [Addr.add]
  rw [hr]
  simp only [Result.andThen_ok, e]
section
variable {P : Program} {ops : Array Oper} {Q : Exit → Act → World → Prop} {R : World → World → Prop} {D : Nat → RD R} {J : (Nat → Bool) → World → Prop} {a0 : Act} {i : Nat} {o : Oper} {T E : TypeId} {n : Nat}
theorem rstep_arrAll (hA : AInfo T E n) (hn : 0 < n) (hrefl : ∀ w, R w w) (ho : ops[i]? = some o) (hw : ∀ L a w, RCtx ops R D J a0 i L a w → Region.wanted o (yielded ops a.tmps) = true) (hJ : ∀ L w, J L w → J (upd L i) w) (x : Tmp) (hop : o.op = .slice T (.tmp x) none none none)
    (k : Nat) (hk : (preds ops 3 i).contains k = true) (hx : dstOf ops k = some x) (b p : Nat) (hD0 : D k = .is (.pointer (some ⟨b, p, none⟩))) (hD : D i = .is (.slice (some ⟨b, p, none⟩) n n)) : RStep Tryz.prog ops Q R D J a0 i :=
  rstep_pure hrefl ho hw hJ fun L a w c => by
    have h1 := c.pred k x (by simpa using hk) hx
    rw [hD0] at h1
    have h1 : a.tmps.getD x undef = .pointer (some ⟨b, p, none⟩) := h1
    refine ⟨.slice (some ⟨b, p, none⟩) n n, ?_, by rw [hD]; rfl⟩
    unfold execOp
    simp only [hop, Act.eval, h1, Option.map_none]
    rw [Sem.run_bind, run_arrAll hA hn]
    rfl
end
def bytRD (rb B9 n : Nat) (L : List UInt8) (h : rb < B9) : RD (fun w w2 => w.grownBy w2 (some rb)) := .pr (fun v w => ∃ A' c', v = .slice A' n c' ∧ OB w B9 A' c' L) (fun _ _ _ ⟨A', c', h1, h2⟩ hg => ⟨A', c', h1, h2.kept hg (by
  cases hA : A' with
  | none => exact .inl rfl
  | some a => exact .inr fun e => by have := h2.lt rb (by rw [hA]; exact e); omega)⟩)
structure DcS (w0 w : World) (b2 rb b5 : Nat) (Ar : Option Addr) (cr : Nat) (r : Rdr) (cs : List Value) : Prop where
  rd : RdM w rb Ar cr r
  k5 : Blk w b5 cs
  k2 : Blk w b2 (mcells zMan)
  bel : Below w0.heap.size w0 w
  lt1 : w0.heap.size ≤ b2
  lt2 : b2 < rb
  lt3 : rb < b5
theorem DcS.num {w0 w w' : World} {b2 rb b5 cr : Nat} {Ar : Option Addr} {r r' : Rdr} {cs : List Value} (h : DcS w0 w b2 rb b5 Ar cr r cs) (hm : RdM w' rb Ar cr r') (hg : w.grownBy w' (some rb)) : DcS w0 w' b2 rb b5 Ar cr r' cs :=
  ⟨hm, h.k5.grown hg (fun e => by injection e with e; have := h.lt3; omega), h.k2.grown hg (fun e => by injection e with e; have := h.lt2; omega), h.bel.grown hg h.bel.size (fun j e => by injection e with e; have := h.lt1; have := h.lt2; omega), h.lt1, h.lt2, h.lt3⟩
theorem DcS.sto {w0 w w' : World} {b2 rb b5 cr : Nat} {Ar : Option Addr} {r : Rdr} {cs cs' : List Value} (h : DcS w0 w b2 rb b5 Ar cr r cs) (hb : Blk w' b5 cs') (hg : w.grownBy w' (some b5)) : DcS w0 w' b2 rb b5 Ar cr r cs' :=
  ⟨h.rd.grown hg (fun k e => by injection e with e; have := h.lt3; omega), hb, h.k2.grown hg (fun e => by injection e with e; have := h.lt2; have := h.lt3; omega), h.bel.grown hg h.bel.size (fun j e => by injection e with e; have := h.lt1; have := h.lt2; have := h.lt3; omega), h.lt1, h.lt2, h.lt3⟩
def RetDm (w : World) (o : Option Man) (e : Ending) (w' : World) : Prop := ∃ v ev, e = .returned (.tuple #[v, ev]) ∧ Below w.heap.size w w' ∧ ((∃ m, o = some m ∧ v = .agg (mcells m).toArray ∧ ev = .nilIface) ∨ (o = none ∧ v = .agg (mcells zMan).toArray ∧ ∃ g, ev = flt g))
set_option maxRecDepth 100000 in
set_option maxHeartbeats 16000000 in
theorem idecode_calls (w : World) (hG : Gl w) (A : Option Addr) (c : Nat) (l : List UInt8) (h40 : l.length = 40) (hA : RB w w.heap.size A l) (_hc : 40 ≤ c) : Calls Tryz.prog 80 #[.slice A 40 c] w (RetDm w (decM l)) := by
  have HG := Lib.hid hG
  have HA := Lib.hid hA
  have H40 := Lib.hid h40
  obtain ⟨zs, hzs⟩ : ∃ zs, zs = mcells zMan := ⟨_, rfl⟩
  have HZS := Lib.hid hzs
  have ZM : Hid (((Tryz.prog.info? 47).bind (·.zero)) = some (.agg zs.toArray) ∧ zs.length = 35 ∧ ∀ v ∈ zs, v.oneCell' = true) := Lib.hid (by rw [hzs]; exact ⟨zeroMan, mcells_len _ rfl, mcells_one _⟩)
  have HBZ : Hid (∀ w, (Instr.build 47 #[]).run Tryz.prog w = .ok (.agg zs.toArray) w) := Lib.hid fun w => by rw [hzs]; exact build_man0 w
  clear hG hA hzs
  have HOUT : Hid (∀ (w3 : World) (g : Nat), decM l = none → Below w.heap.size w w3 → RetDm w (decM l) (.returned (.tuple #[.agg zs.toArray, flt g])) w3) := Lib.hid fun w3 g h1 h2 => ⟨.agg zs.toArray, flt g, rfl, h2, .inr ⟨h1, by rw [HZS.out], g, rfl⟩⟩
  go_enter Tryz.func80, Tryz.ntmps80
  go_wp2_with (((with_reducible show wpList _ _ _ (Oper.mk (some 2) (Op.alloc 47) _ _ _ _ :: _) _ _); refine wpList_allocS _ ZM.out.1 rfl rfl ?_))
  intro w1 hb1 hg1 hs1
  obtain ⟨b2, hB2⟩ : ∃ b, b = w.heap.size := ⟨_, rfl⟩
  have HB2 := Lib.hid hB2
  rw [← hB2] at hb1 ⊢
  have HB1 := Lib.hid hb1
  have HE1 : Hid (Below w.heap.size w w1) := Lib.hid (gbelow hg1)
  have HRD : Hid (Calls Tryz.prog 77 #[.slice A 40 c] w1 (RetRd w1 l)) := Lib.hid (by
    have := read_calls w1 w1.heap.size A c l ((HA.out.below HE1.out).mono HE1.out.size) (Nat.le_refl _) (by omega)
    rw [h40] at this
    exact this)
  clear hb1 hg1 hs1 hB2 h40
  go_wp2_with fail
  go_at_call 77
  with_reducible refine HRD.out.mono ?_
  rintro e w2 ⟨rb, Ar, cr, rfl, hrd, hlt, hb2⟩
  have HRM := Lib.hid hrd
  have HK2 : Hid (Blk w2 b2 zs) := Lib.hid (HB1.out.below hb2 HB1.out.lt)
  have HE2 : Hid (Below w.heap.size w w2) := Lib.hid (HE1.out.trans (hb2.mono HE1.out.size))
  have HL2 : Hid (b2 < rb) := Lib.hid (Nat.lt_of_lt_of_le HB1.out.lt hlt)
  obtain ⟨X1, hX1⟩ : ∃ X, X = le ((l.drop 0).take 1) := ⟨_, rfl⟩
  have HX1 := Lib.hid hX1
  have HN1 : Hid (Calls Tryz.prog 78 #[.pointer (some ⟨rb, 0, none⟩), .int .i64 1] w2 (RetNum w2 rb Ar cr (⟨l, 1, 0⟩, X1))) := Lib.hid (by
    have := num_calls w2 rb Ar cr ⟨l, 0, 0⟩ hrd (by have := H40.out; show l.length ≤ _; omega) 1
    rw [show ((⟨l, 0, 0⟩ : Rdr).num 1) = (⟨l, 1, 0⟩, X1) by rw [hX1]; exact Rdr.num_at (p := 0) (k := 1) (by decide) (by decide) (by have := H40.out; omega)] at this
    exact this)
  clear hrd hlt hb2 hX1 HRD HB1 HE1
  go_wp2_with fail
  go_at_call 78
  with_reducible refine HN1.out.mono ?_
  rintro e w3 ⟨rfl, hm3, hg3⟩
  have HRM3 := Lib.hid hm3
  have HK3 : Hid (Blk w3 b2 zs) := Lib.hid (HK2.out.grown hg3 (fun e => by injection e with e; have := HL2.out; omega))
  have HE3 : Hid (Below w.heap.size w w3) := Lib.hid (HE2.out.grown hg3 HE2.out.size (fun j e => by injection e with e; have := HL2.out; have := HB2.out; omega))
  clear hm3 hg3 HN1 HRM HK2 HE2
  by_cases hX : X1 = 77
  · subst hX
    have HH : Hid (l.head? = some 77) := Lib.hid ((head_le (by have := H40.out; omega)).2 HX1.out.symm)
    have HMU := Lib.hid (must_calls_true w3 rb 3)
    go_wp2_with fail
    go_at_call 101
    with_reducible refine HMU.out.mono ?_
    rintro e w4 ⟨rfl, rfl⟩
    clear HMU
    go_wp2_with (((with_reducible show wpList _ _ _ (Oper.mk (some 5) (Op.alloc 47) _ _ _ _ :: _) _ _); refine wpList_allocS _ ZM.out.1 rfl rfl ?_))
    intro w5 hb5 hg5 hs5
    obtain ⟨b5, hB5⟩ : ∃ b, b = w3.heap.size := ⟨_, rfl⟩
    rw [← hB5] at hb5 ⊢
    have HS5 : Hid (DcS w w5 b2 rb b5 Ar cr ⟨l, 1, 0⟩ zs) := Lib.hid ⟨HRM3.out.grown hg5 (fun k e => by cases e), hb5, by rw [← HZS.out]; exact HK3.out.grown hg5 (by simp), HE3.out.trans ((gbelow hg5).mono HE3.out.size), by rw [HB2.out]; exact Nat.le_refl _, HL2.out, by rw [hB5]; exact HRM3.out.blk.lt⟩
    clear hb5 hg5 hs5 hB5 HRM3 HK3 HE3
    -- part
    obtain ⟨X2, hX2⟩ : ∃ X, X = le (cut l 1 1) := ⟨_, rfl⟩
    obtain ⟨X3, hX3⟩ : ∃ X, X = le (cut l 2 4) := ⟨_, rfl⟩
    obtain ⟨X4, hX4⟩ : ∃ X, X = le (cut l 6 2) := ⟨_, rfl⟩
    have HXX : Hid (X2 = le (cut l 1 1) ∧ X3 = le (cut l 2 4) ∧ X4 = le (cut l 6 2)) := Lib.hid ⟨hX2, hX3, hX4⟩
    have e2 : X2 < 256 := by rw [hX2]; exact cut_lt l 1 1
    have e3 : X3 < 4294967296 := by rw [hX3]; exact cut_lt l 2 4
    have e4 : X4 < 65536 := by rw [hX4]; exact cut_lt l 6 2
    have wr2 : IntKind.i64.wrap (X2 : Int) = (X2 : Int) := by rw [Go.IntWalk.i64_left]; unfold wrap64; omega
    have wr3 : IntKind.u32.wrap (X3 : Int) = (X3 : Int) := by rw [IntKind.wrap_u32]; omega
    have wr4 : IntKind.i64.wrap (X4 : Int) = (X4 : Int) := by rw [Go.IntWalk.i64_left]; unfold wrap64; omega
    have wr2' : wrap64 (X2 : Int) = (X2 : Int) := by unfold wrap64; omega
    have wr4' : wrap64 (X4 : Int) = (X4 : Int) := by unfold wrap64; omega
    have mr3 : (X3 : Int) % 4294967296 = (X3 : Int) := by omega
    have HNA : Hid (∀ w p k X, RdM w rb Ar cr ⟨l, p, 0⟩ → 1 ≤ k → k ≤ 8 → p + k ≤ 40 → X = le (cut l p k) → Calls Tryz.prog 78 #[.pointer (some ⟨rb, 0, none⟩), .int .i64 ((k : Nat) : Int)] w (RetNum w rb Ar cr (⟨l, p + k, 0⟩, X))) := Lib.hid fun w p k X hr h1 h8 hp hX => by
      have := num_calls w rb Ar cr ⟨l, p, 0⟩ hr (by have := H40.out; show l.length ≤ _; omega) k
      rw [Rdr.num_at h1 h8 (by rw [H40.out]; exact hp)] at this
      rw [hX]
      exact this
    clear hX2 hX3 hX4 e2 e3 e4
    have HN2 : Hid (Calls Tryz.prog 78 #[.pointer (some ⟨rb, 0, none⟩), .int .i64 1] w5 (RetNum w5 rb Ar cr (⟨l, 2, 0⟩, X2))) := Lib.hid (HNA.out w5 1 1 X2 HS5.out.rd (by decide) (by decide) (by decide) HXX.out.1)
    go_wp2_with fail
    go_at_call 78
    with_reducible refine HN2.out.mono ?_
    rintro e w6 ⟨rfl, hm6, hg6⟩
    have HS6 : Hid (DcS w w6 b2 rb b5 Ar cr ⟨l, 2, 0⟩ zs) := Lib.hid (HS5.out.num hm6 hg6)
    clear hm6 hg6 HN2 HS5
    go_wp2_with (((with_reducible show wpList _ _ _ (Oper.mk _ (Op.store 3 _ _) _ _ _ _ :: _) _ _); refine wpList_storeB rfl 3 _ _ rfl b5 0 zs (.int .i64 (X2 : Int)) (by rw [ZM.out.2.1]; decide) rfl (by rfl) HS6.out.k5 (by kernel_rfl) rfl ?_))
    intro w7 hb7 hg7 hs7
    obtain ⟨cs7, hcs7⟩ : ∃ cs, cs = zs.set 0 (.int .i64 (X2 : Int)) := ⟨_, rfl⟩
    rw [← hcs7] at hb7
    have HC7 := Lib.hid hcs7
    have HS7 : Hid (DcS w w7 b2 rb b5 Ar cr ⟨l, 2, 0⟩ cs7) := Lib.hid (HS6.out.sto hb7.out hg7.out)
    have HN3 : Hid (Calls Tryz.prog 78 #[.pointer (some ⟨rb, 0, none⟩), .int .i64 4] w7 (RetNum w7 rb Ar cr (⟨l, 6, 0⟩, X3))) := Lib.hid (HNA.out w7 2 4 X3 HS7.out.rd (by decide) (by decide) (by decide) HXX.out.2.1)
    clear hb7 hg7 hs7 hcs7 HS6
    go_wp2_with fail
    go_at_call 78
    with_reducible refine HN3.out.mono ?_
    rintro e w8 ⟨rfl, hm8, hg8⟩
    have HS8 : Hid (DcS w w8 b2 rb b5 Ar cr ⟨l, 6, 0⟩ cs7) := Lib.hid (HS7.out.num hm8 hg8)
    have HC35 : Hid (cs7.length = 35) := Lib.hid (by rw [HC7.out, List.length_set]; exact ZM.out.2.1)
    clear hm8 hg8 HN3 HS7
    go_wp2_with (((with_reducible show wpList _ _ _ (Oper.mk _ (Op.store 44 _ _) _ _ _ _ :: _) _ _); refine wpList_storeB rfl 44 _ _ rfl b5 1 cs7 (.int .u32 (X3 : Int)) (by rw [HC35.out]; decide) rfl (by rfl) HS8.out.k5 (by kernel_rfl) rfl ?_))
    intro w9 hb9 hg9 hs9
    obtain ⟨cs9, hcs9⟩ : ∃ cs, cs = cs7.set 1 (.int .u32 (X3 : Int)) := ⟨_, rfl⟩
    rw [← hcs9] at hb9
    have HC9 := Lib.hid hcs9
    have HS9 : Hid (DcS w w9 b2 rb b5 Ar cr ⟨l, 6, 0⟩ cs9) := Lib.hid (HS8.out.sto hb9.out hg9.out)
    have HN4 : Hid (Calls Tryz.prog 78 #[.pointer (some ⟨rb, 0, none⟩), .int .i64 2] w9 (RetNum w9 rb Ar cr (⟨l, 8, 0⟩, X4))) := Lib.hid (HNA.out w9 6 2 X4 HS9.out.rd (by decide) (by decide) (by decide) HXX.out.2.2)
    have HC935 : Hid (cs9.length = 35) := Lib.hid (by rw [HC9.out, List.length_set]; exact HC35.out)
    clear hb9 hg9 hs9 hcs9 HS8
    go_wp2_with fail
    go_at_call 78
    with_reducible refine HN4.out.mono ?_
    rintro e w10 ⟨rfl, hm10, hg10⟩
    have HS10 : Hid (DcS w w10 b2 rb b5 Ar cr ⟨l, 8, 0⟩ cs9) := Lib.hid (HS9.out.num hm10 hg10)
    clear hm10 hg10 HN4 HS9
    go_wp2_with (((with_reducible show wpList _ _ _ (Oper.mk _ (Op.store 3 _ _) _ _ _ _ :: _) _ _); refine wpList_storeB rfl 3 _ _ rfl b5 2 cs9 (.int .i64 (X4 : Int)) (by rw [HC935.out]; decide) rfl (by rfl) HS10.out.k5 (by kernel_rfl) rfl ?_))
    intro W7 hb11 hg11 hs11
    obtain ⟨cs8, hcs8⟩ : ∃ cs, cs = cs9.set 2 (.int .i64 (X4 : Int)) := ⟨_, rfl⟩
    rw [← hcs8] at hb11
    have HC8 := Lib.hid hcs8
    have HS11 : Hid (DcS w W7 b2 rb b5 Ar cr ⟨l, 8, 0⟩ cs8) := Lib.hid (HS10.out.sto hb11.out hg11.out)
    have HRB7 : Hid (rb < W7.heap.size) := Lib.hid HS11.out.rd.blk.lt
    have HC835 : Hid (cs8.length = 35) := Lib.hid (by rw [HC8.out, List.length_set]; exact HC935.out)
    obtain ⟨L8, hL8⟩ : ∃ L, L = cut l 8 32 := ⟨_, rfl⟩
    have HL8 := Lib.hid hL8
    have HL832 : Hid (L8.length = 32) := Lib.hid (by rw [hL8]; unfold cut; rw [List.length_take, List.length_drop, H40.out]; decide)
    obtain ⟨r7, hr7⟩ : ∃ r : Rdr, r = ⟨l, 40, 0⟩ := ⟨_, rfl⟩
    have HR7 := Lib.hid hr7
    have BYC : Hid (∀ ww, ww = W7.drew → Calls Tryz.prog 81 #[.pointer (some ⟨rb, 0, none⟩), .int .i64 32] ww (fun e w' => ∃ v, e = .returned v ∧ (bytRD rb W7.heap.size 32 L8 HRB7.out).ok v w' ∧ ww.grownBy w' (some rb) ∧ ∀ L, OneJ 3 (fun x => x = W7.drew) (fun x => DcS w x b2 rb b5 Ar cr r7 cs8) (upd L 3) w')) := Lib.hid fun ww hww => by
      subst hww
      have hd : DcS w W7.drew b2 rb b5 Ar cr ⟨l, 8, 0⟩ cs8 := HS11.out.num (RdM.drew HS11.out.rd) ⟨rfl, rfl, rfl, Nat.le_refl _, fun _ _ _ => rfl⟩
      refine (bytes_calls W7.drew rb Ar cr ⟨l, 8, 0⟩ hd.rd (by have := H40.out; show l.length ≤ _; omega) 32 rfl (by have := H40.out; show 32 ≤ l.length - 8; omega)).mono ?_
      rintro e w' ⟨A', c', rfl, h1, h2, h3⟩
      refine ⟨_, rfl, ⟨A', c', rfl, by rw [hL8]; exact h1⟩, h3, fun L => OneJ.done ?_⟩
      rw [hr7]
      exact hd.num h2 h3
    clear hb11 hg11 hs11 hcs8 HS10 hL8 hr7
    go_wp2_with fail
    refine region_rel 4 (fun w w2 => w.grownBy w2 (some rb)) (fun ix9 => ([.is (.pointer (some ⟨b5, 3, none⟩)), .is (.slice (some ⟨b5, 3, none⟩) 32 32), .is (.pointer (some ⟨rb, 0, none⟩)), bytRD rb W7.heap.size 32 L8 HRB7.out] : List (RD (fun w w2 => w.grownBy w2 (some rb)))).getD ix9 (.is undef)) [some 26, some 27, some 28, some 29] (OneJ 3 (fun x => x = W7.drew) (fun x => DcS w x b2 rb b5 Ar cr r7 cs8)) (fun w => World.grownBy.refl w _) (by kernel_rfl) (by kernel_rfl) (by kernel_rfl) (by kernel_rfl) rfl (OneJ.start rfl) (fun ii hii => ?_) ?_
    · match ii, hii with
      | 0, _ => exact rstep_pure (fun w => World.grownBy.refl w _) rfl (rwant_none rfl) (OneJ.pure (by decide)) (fun LL aa ww cc => ⟨.pointer (some ⟨b5, 3, none⟩), by have e0 : aa.tmps.getD 5 undef = .pointer (some ⟨b5, 0, none⟩) := (cc.orig 5 (by kernel_rfl)).trans rfl; simp only [execOp, Act.eval]; go_simp, rfl⟩)
      | 1, _ => exact rstep_arrAll aB32 (by decide) ((fun w => World.grownBy.refl w _)) rfl (rwant_none rfl) (OneJ.pure (by decide)) 26 rfl 0 (by kernel_rfl) rfl b5 3 rfl rfl
      | 2, _ => exact rstep_first (fun w => World.grownBy.refl w _) rfl (rwant_none rfl) (OneJ.pure (by decide)) 4 (Or.inl rfl) (by kernel_rfl) (fun _ => rfl)
      | 3, _ => exact rstep_call rfl (rwant_none rfl) _ _ _ rfl (enters_of Tryz.func81 (by kernel_rfl) rfl) (fun LL aa ww cc => by have e0 : aa.tmps.getD 28 undef = .pointer (some ⟨rb, 0, none⟩) := cc.slot 2 28 (by kernel_rfl) rfl; simp only [List.map_toArray, List.map_cons, List.map_nil, Act.eval, e0]; exact (BYC.out _ (cc.world.1 cc.fresh)).mono (fun e w2 hh => by obtain ⟨v, h1, h2, h3, h4⟩ := hh; exact ⟨v, h1, h2, h3, h4 LL⟩))
      | n + 4, h => exact absurd h (by show ¬ (n + 4 < 4); omega)
    · intro L9 VV w5 hall hlen hJ5 hok
      match VV, hlen with
      | [v0, v1, v2, v3], _ =>
        obtain rfl : v0 = .pointer (some ⟨b5, 3, none⟩) := hok 0 26 rfl
        obtain rfl : v1 = .slice (some ⟨b5, 3, none⟩) 32 32 := hok 1 27 rfl
        obtain rfl : v2 = .pointer (some ⟨rb, 0, none⟩) := hok 2 28 rfl
        have p3 := hok 3 29 rfl
        obtain ⟨A9, c9, rfl, hob⟩ : ∃ A' c', v3 = .slice A' 32 c' ∧ OB w5 W7.heap.size A' c' L8 := p3
        have HS12 : Hid (DcS w w5 b2 rb b5 Ar cr r7 cs8) := Lib.hid (hJ5.2 (hall 3 (by decide)))
        have HOB := Lib.hid hob
        clear hob hJ5 hok hall BYC HS11
        simp only [List.zip_cons_cons, List.zip_nil_right, putsL]
        go_simp
        go_wp2_with (((with_reducible show wpList _ _ _ (Oper.mk _ (Op.call (Call.mk (Callee.builtin Builtin.copy) _ _)) _ _ _ _ :: _) _ _); refine wpList_copyR rfl _ _ rfl b5 3 32 32 cs8 A9 32 c9 L8 rfl (by rfl) HL832.out.symm HS12.out.k5 (by decide) (by rw [HC835.out]; decide) HOB.out.rb ?_))
        intro w13 hb13 hg13
        obtain ⟨M, hM⟩ : ∃ M : Man, M = ⟨(X2 : Nat), X3, (X4 : Nat), L8⟩ := ⟨_, rfl⟩
        obtain ⟨ms, hms⟩ : ∃ ms, ms = mcells M := ⟨_, rfl⟩
        have HS13 : Hid (DcS w w13 b2 rb b5 Ar cr r7 ms) := Lib.hid (HS12.out.sto (by
          have := hb13.out
          have e : cs8.take 3 ++ L8.map bv ++ cs8.drop (3 + 32) = ms := by
            rw [List.drop_of_length_le (by rw [HC835.out]; decide), List.append_nil, hms, hM, HC8.out, HC9.out, HC7.out, HZS.out]
            rfl
          rw [← e]
          simpa only [List.append_assoc] using this) hg13.out)
        have HM32 : Hid (M.sum.length = 32) := Lib.hid (by rw [hM]; exact HL832.out)
        have HM35 : Hid (ms.length = 35 ∧ ∀ v ∈ ms, v.oneCell' = true) := Lib.hid (by rw [hms]; exact ⟨mcells_len _ HM32.out, mcells_one _⟩)
        have HDM : Hid (decM l = if M.okB = true then some M else none) := Lib.hid (by rw [decM_40 HH.out H40.out, hM, HXX.out.1, HXX.out.2.1, HXX.out.2.2, HL8.out])
        have HVC : Hid (∀ w, Calls Tryz.prog 60 #[.agg ms.toArray] w (fun e w' => e = .returned (.bool M.okB) ∧ Below w.heap.size w w')) := Lib.hid fun w => by rw [hms]; exact valid_calls w M
        have HMS := Lib.hid hms
        have HED : Hid (Calls Tryz.prog 102 #[.pointer (some ⟨rb, 0, none⟩)] w13 (RetErr w13 none)) := Lib.hid (by
          have := end_calls w13 rb Ar cr r7 HS13.out.rd (by rw [HR7.out]; have := H40.out; show l.length ≤ _; omega)
          have e : r7.fin = none := by
            rw [HR7.out]
            unfold Rdr.fin Rdr.left
            rw [if_neg (by simp), if_neg (by show ¬ 0 < l.length - 40; have := H40.out; omega)]
          rw [e] at this
          exact this)
        clear hb13 hg13 hM hms HS12 HOB
        go_wp2_with fail
        go_at_call 102
        with_reducible refine HED.out.mono ?_
        rintro e w14 ⟨⟨v, rfl, hv⟩, hb14⟩
        obtain rfl : v = .nilIface := hv
        have HS14 : Hid (Blk w14 b5 ms ∧ Blk w14 b2 zs ∧ Below w.heap.size w w14 ∧ w.heap.size ≤ b2) := Lib.hid ⟨HS13.out.k5.below hb14 HS13.out.k5.lt, by rw [HZS.out]; exact HS13.out.k2.below hb14 HS13.out.k2.lt, HS13.out.bel.trans (hb14.mono HS13.out.bel.size), HS13.out.lt1⟩
        clear hb14 HED HS13
        go_wp2_with (((with_reducible show wpList _ _ _ (Oper.mk (some 38) (Op.load 47 _) _ _ _ _ :: _) _ _); refine wpList_loadS sMan rfl _ rfl b5 ms rfl HS14.out.1 HM35.out.1 ?_))
        go_at_call 60
        with_reducible refine (HVC.out w14).mono ?_
        rintro e w15 ⟨rfl, hb15⟩
        have HS15 : Hid (Blk w15 b5 ms ∧ Blk w15 b2 zs ∧ Below w.heap.size w w15 ∧ w.heap.size ≤ b2) := Lib.hid ⟨HS14.out.1.below hb15 HS14.out.1.lt, HS14.out.2.1.below hb15 HS14.out.2.1.lt, HS14.out.2.2.1.trans (hb15.mono HS14.out.2.2.1.size), HS14.out.2.2.2⟩
        clear hb15 HS14 HVC
        cases hok : M.okB with
        | true =>
          have HDO : Hid (decM l = some M) := Lib.hid (by rw [HDM.out, if_pos hok])
          clear hok
          go_wp2_with (first | ((with_reducible show wpList _ _ _ (Oper.mk (some 43) (Op.load 47 _) _ _ _ _ :: _) _ _); refine wpList_loadS sMan rfl _ rfl b5 ms rfl HS15.out.1 HM35.out.1 ?_) | ((with_reducible show wpList _ _ _ (Oper.mk _ (Op.store 47 _ _) _ _ _ _ :: _) _ _); refine wpList_storeS sMan rfl _ _ rfl b2 _ ms rfl rfl HS15.out.2.1 ZM.out.2.1 HM35.out.1 HM35.out.2 ?_))
          intro w16 hb16 hg16
          have l1' := Lib.hid (run_loadS sMan b2 ms hb16 HM35.out.1)
          have HRES : Hid (RetDm w (decM l) (.returned (.tuple #[.agg ms.toArray, .nilIface])) w16) := Lib.hid ⟨_, _, rfl, HS15.out.2.2.1.grown hg16 HS15.out.2.2.1.size (fun j e => by injection e with e; have := HS15.out.2.2.2; omega), .inl ⟨M, HDO.out, by rw [HMS.out], rfl⟩⟩
          clear hb16 hg16
          go_wp2
          exact bodyPost_ret (v := .tuple #[.agg ms.toArray, .nilIface]) (by simp [results, Tryz.results80, asAddr, l1'.out]) rfl HRES.out
        | false =>
        have HDO : Hid (decM l = none) := Lib.hid (by rw [HDM.out, if_neg (by rw [hok]; decide)])
        have HFX : Hid (Calls Tryz.prog 30 #[.int .i64 1, .int .i64 40] w15 (RetErr w15 (some (1, 40)))) := Lib.hid (fault_new w15 1 40 (by decide))
        clear hok
        go_wp2_with (((with_reducible show wpList _ _ _ (Oper.mk _ (Op.build 47 _) _ _ _ _ :: _) _ _); refine wpList_buildS rfl _ _ rfl #[] zs.toArray (by simp only [List.map_toArray, List.map_nil]) (HBZ.out _) ?_))
        go_at_call 30
        with_reducible refine HFX.out.mono ?_
        rintro e w16 ⟨⟨v, rfl, hv⟩, hb16⟩
        obtain ⟨g, rfl, hfl⟩ := errv_flt hv
        have HS16 : Hid (Blk w16 b2 zs ∧ Below w.heap.size w w16) := Lib.hid ⟨HS15.out.2.1.below hb16 HS15.out.2.1.lt, HS15.out.2.2.1.trans (hb16.mono HS15.out.2.2.1.size)⟩
        clear hv hb16 hfl HFX
        go_wp2_with (((with_reducible show wpList _ _ _ (Oper.mk _ (Op.store 47 _ _) _ _ _ _ :: _) _ _); refine wpList_storeS sMan rfl _ _ rfl b2 _ zs rfl rfl HS16.out.1 ZM.out.2.1 ZM.out.2.1 ZM.out.2.2 ?_))
        intro w17 hb17 hg17
        have l1' := Lib.hid (run_loadS sMan b2 zs hb17 ZM.out.2.1)
        have HRES := Lib.hid (HOUT.out w17 g HDO.out (HS16.out.2.grown hg17 HS16.out.2.size (fun j e => by injection e with e; have := HS15.out.2.2.2; omega)))
        clear hb17 hg17 HOUT
        go_wp2
        exact bodyPost_ret (v := .tuple #[.agg zs.toArray, flt g]) (by simp [results, Tryz.results80, asAddr, l1'.out, flt]) rfl HRES.out
  · have HDO : Hid (decM l = none) := Lib.hid (decM_none fun h => hX ((HX1.out).trans ((head_le (by have := H40.out; omega)).1 h)))
    have hXi : ((X1 : Int) == 77) = false := by simp; omega
    have HMU : Hid (Calls Tryz.prog 101 #[.pointer (some ⟨rb, 0, none⟩), .bool false, .int .i64 3] w3 (RetMu w3 rb Ar cr ⟨l, 1, 3⟩)) := Lib.hid (must_calls_false w3 rb Ar cr ⟨l, 1, 0⟩ HRM3.out)
    clear hX
    go_wp2_with fail
    go_at_call 101
    with_reducible refine HMU.out.mono ?_
    rintro e w4 ⟨rfl, hm4, hg4⟩
    obtain ⟨r7, hr7⟩ : ∃ r : Rdr, r = ⟨l, 1, 3⟩ := ⟨_, rfl⟩
    have HR7 := Lib.hid hr7
    rw [← hr7] at hm4
    have HRM4 := Lib.hid hm4
    have HK4 : Hid (Blk w4 b2 zs) := Lib.hid (HK3.out.grown hg4 (fun e => by injection e with e; have := HL2.out; omega))
    have HE4 : Hid (Below w.heap.size w w4) := Lib.hid (HE3.out.grown hg4 HE3.out.size (fun j e => by injection e with e; have := HL2.out; have := HB2.out; omega))
    clear HMU hm4 hg4 hr7 hXi HRM3 HK3 HE3
    go_wp2_with (((with_reducible show wpList _ _ _ (Oper.mk (some 5) (Op.alloc 47) _ _ _ _ :: _) _ _); refine wpList_allocS _ ZM.out.1 rfl rfl ?_))
    intro w5 hb5 hg5 hs5
    obtain ⟨b5, hB5⟩ : ∃ b, b = w4.heap.size := ⟨_, rfl⟩
    rw [← hB5] at hb5 ⊢
    have HS5 : Hid (DcS w w5 b2 rb b5 Ar cr r7 zs) := Lib.hid ⟨HRM4.out.grown hg5 (fun k e => by cases e), hb5, by rw [← HZS.out]; exact HK4.out.grown hg5 (by simp), HE4.out.trans ((gbelow hg5).mono HE4.out.size), by rw [HB2.out]; exact Nat.le_refl _, HL2.out, by rw [hB5]; exact HRM4.out.blk.lt⟩
    have HNA : Hid (∀ w k, RdM w rb Ar cr r7 → 1 ≤ k → k ≤ 8 → Calls Tryz.prog 78 #[.pointer (some ⟨rb, 0, none⟩), .int .i64 ((k : Nat) : Int)] w (RetNum w rb Ar cr (r7, 0))) := Lib.hid fun w k hr h1 h8 => by
      have := num_calls w rb Ar cr r7 hr (by rw [HR7.out]; have := H40.out; show l.length ≤ _; omega) k
      rw [HR7.out, Rdr.num_bad h1 h8 (by decide), ← HR7.out] at this
      exact this
    clear hb5 hg5 hs5 hB5 HRM4 HK4 HE4
    have HN2 : Hid (Calls Tryz.prog 78 #[.pointer (some ⟨rb, 0, none⟩), .int .i64 1] w5 (RetNum w5 rb Ar cr (r7, 0))) := Lib.hid (HNA.out w5 1 HS5.out.rd (by decide) (by decide))
    go_wp2_with fail
    go_at_call 78
    with_reducible refine HN2.out.mono ?_
    rintro e w6 ⟨rfl, hm6, hg6⟩
    have HS6 : Hid (DcS w w6 b2 rb b5 Ar cr r7 zs) := Lib.hid (HS5.out.num hm6 hg6)
    clear hm6 hg6 HN2 HS5
    go_wp2_with (((with_reducible show wpList _ _ _ (Oper.mk _ (Op.store 3 _ _) _ _ _ _ :: _) _ _); refine wpList_storeB rfl 3 _ _ rfl b5 0 zs (.int .i64 0) (by rw [ZM.out.2.1]; decide) rfl (by rfl) HS6.out.k5 (by kernel_rfl) rfl ?_))
    intro w7 hb7 hg7 hs7
    obtain ⟨cs7, hcs7⟩ : ∃ cs, cs = zs.set 0 (.int .i64 0) := ⟨_, rfl⟩
    rw [← hcs7] at hb7
    have HS7 : Hid (DcS w w7 b2 rb b5 Ar cr r7 cs7) := Lib.hid (HS6.out.sto hb7.out hg7.out)
    have HC35 : Hid (cs7.length = 35) := Lib.hid (by rw [hcs7, List.length_set]; exact ZM.out.2.1)
    have HN3 : Hid (Calls Tryz.prog 78 #[.pointer (some ⟨rb, 0, none⟩), .int .i64 4] w7 (RetNum w7 rb Ar cr (r7, 0))) := Lib.hid (HNA.out w7 4 HS7.out.rd (by decide) (by decide))
    clear hb7 hg7 hs7 hcs7 HS6
    go_wp2_with fail
    go_at_call 78
    with_reducible refine HN3.out.mono ?_
    rintro e w8 ⟨rfl, hm8, hg8⟩
    have HS8 : Hid (DcS w w8 b2 rb b5 Ar cr r7 cs7) := Lib.hid (HS7.out.num hm8 hg8)
    clear hm8 hg8 HN3 HS7
    go_wp2_with (((with_reducible show wpList _ _ _ (Oper.mk _ (Op.store 44 _ _) _ _ _ _ :: _) _ _); refine wpList_storeB rfl 44 _ _ rfl b5 1 cs7 (.int .u32 0) (by rw [HC35.out]; decide) rfl (by rfl) HS8.out.k5 (by kernel_rfl) rfl ?_))
    intro w9 hb9 hg9 hs9
    obtain ⟨cs9, hcs9⟩ : ∃ cs, cs = cs7.set 1 (.int .u32 0) := ⟨_, rfl⟩
    rw [← hcs9] at hb9
    have HS9 : Hid (DcS w w9 b2 rb b5 Ar cr r7 cs9) := Lib.hid (HS8.out.sto hb9.out hg9.out)
    have HC935 : Hid (cs9.length = 35) := Lib.hid (by rw [hcs9, List.length_set]; exact HC35.out)
    have HN4 : Hid (Calls Tryz.prog 78 #[.pointer (some ⟨rb, 0, none⟩), .int .i64 2] w9 (RetNum w9 rb Ar cr (r7, 0))) := Lib.hid (HNA.out w9 2 HS9.out.rd (by decide) (by decide))
    clear hb9 hg9 hs9 hcs9 HS8
    go_wp2_with fail
    go_at_call 78
    with_reducible refine HN4.out.mono ?_
    rintro e w10 ⟨rfl, hm10, hg10⟩
    have HS10 : Hid (DcS w w10 b2 rb b5 Ar cr r7 cs9) := Lib.hid (HS9.out.num hm10 hg10)
    clear hm10 hg10 HN4 HS9
    go_wp2_with (((with_reducible show wpList _ _ _ (Oper.mk _ (Op.store 3 _ _) _ _ _ _ :: _) _ _); refine wpList_storeB rfl 3 _ _ rfl b5 2 cs9 (.int .i64 0) (by rw [HC935.out]; decide) rfl (by rfl) HS10.out.k5 (by kernel_rfl) rfl ?_))
    intro W7 hb11 hg11 hs11
    obtain ⟨cs8, hcs8⟩ : ∃ cs, cs = cs9.set 2 (.int .i64 0) := ⟨_, rfl⟩
    rw [← hcs8] at hb11
    have HS11 : Hid (DcS w W7 b2 rb b5 Ar cr r7 cs8) := Lib.hid (HS10.out.sto hb11.out hg11.out)
    have HC835 : Hid (cs8.length = 35) := Lib.hid (by rw [hcs8, List.length_set]; exact HC935.out)
    have BYC : Hid (∀ ww, ww = W7.drew → Calls Tryz.prog 81 #[.pointer (some ⟨rb, 0, none⟩), .int .i64 32] ww (fun e w' => ∃ v, e = .returned v ∧ v = .slice none 0 0 ∧ ww.grownBy w' (some rb) ∧ ∀ L, OneJ 3 (fun x => x = W7.drew) (fun x => DcS w x b2 rb b5 Ar cr r7 cs8) (upd L 3) w')) := Lib.hid fun ww hww => by
      subst hww
      have hd : DcS w W7.drew b2 rb b5 Ar cr r7 cs8 := HS11.out.num (RdM.drew HS11.out.rd) ⟨rfl, rfl, rfl, Nat.le_refl _, fun _ _ _ => rfl⟩
      refine (bytes_bad W7.drew rb Ar cr r7 hd.rd (by rw [HR7.out]; have := H40.out; show l.length ≤ _; omega) 32 (by rw [HR7.out]; show (3 : Nat) ≠ 0; decide) (by decide)).mono ?_
      rintro e w' ⟨rfl, h2, h3⟩
      exact ⟨_, rfl, rfl, h3, fun L => OneJ.done (hd.num h2 h3)⟩
    clear hb11 hg11 hs11 hcs8 HS10
    go_wp2_with fail
    refine region_rel 4 (fun w w2 => w.grownBy w2 (some rb)) (fun ix9 => ([.is (.pointer (some ⟨b5, 3, none⟩)), .is (.slice (some ⟨b5, 3, none⟩) 32 32), .is (.pointer (some ⟨rb, 0, none⟩)), .is (.slice none 0 0)] : List (RD (fun w w2 => w.grownBy w2 (some rb)))).getD ix9 (.is undef)) [some 26, some 27, some 28, some 29] (OneJ 3 (fun x => x = W7.drew) (fun x => DcS w x b2 rb b5 Ar cr r7 cs8)) (fun w => World.grownBy.refl w _) (by kernel_rfl) (by kernel_rfl) (by kernel_rfl) (by kernel_rfl) rfl (OneJ.start rfl) (fun ii hii => ?_) ?_
    · match ii, hii with
      | 0, _ => exact rstep_pure (fun w => World.grownBy.refl w _) rfl (rwant_none rfl) (OneJ.pure (by decide)) (fun LL aa ww cc => ⟨.pointer (some ⟨b5, 3, none⟩), by have e0 : aa.tmps.getD 5 undef = .pointer (some ⟨b5, 0, none⟩) := (cc.orig 5 (by kernel_rfl)).trans rfl; simp only [execOp, Act.eval]; go_simp, rfl⟩)
      | 1, _ => exact rstep_arrAll aB32 (by decide) ((fun w => World.grownBy.refl w _)) rfl (rwant_none rfl) (OneJ.pure (by decide)) 26 rfl 0 (by kernel_rfl) rfl b5 3 rfl rfl
      | 2, _ => exact rstep_first (fun w => World.grownBy.refl w _) rfl (rwant_none rfl) (OneJ.pure (by decide)) 4 (Or.inl rfl) (by kernel_rfl) (fun _ => rfl)
      | 3, _ => exact rstep_call rfl (rwant_none rfl) _ _ _ rfl (enters_of Tryz.func81 (by kernel_rfl) rfl) (fun LL aa ww cc => by have e0 : aa.tmps.getD 28 undef = .pointer (some ⟨rb, 0, none⟩) := cc.slot 2 28 (by kernel_rfl) rfl; simp only [List.map_toArray, List.map_cons, List.map_nil, Act.eval, e0]; exact (BYC.out _ (cc.world.1 cc.fresh)).mono (fun e w2 hh => by obtain ⟨v, h1, h2, h3, h4⟩ := hh; exact ⟨v, h1, h2, h3, h4 LL⟩))
      | n + 4, h => exact absurd h (by show ¬ (n + 4 < 4); omega)
    · intro L9 VV w5 hall hlen hJ5 hok
      match VV, hlen with
      | [v0, v1, v2, v3], _ =>
        obtain rfl : v0 = .pointer (some ⟨b5, 3, none⟩) := hok 0 26 rfl
        obtain rfl : v1 = .slice (some ⟨b5, 3, none⟩) 32 32 := hok 1 27 rfl
        obtain rfl : v2 = .pointer (some ⟨rb, 0, none⟩) := hok 2 28 rfl
        obtain rfl : v3 = .slice none 0 0 := hok 3 29 rfl
        have HS12 : Hid (DcS w w5 b2 rb b5 Ar cr r7 cs8) := Lib.hid (hJ5.2 (hall 3 (by decide)))
        clear hJ5 hok hall BYC HS11
        simp only [List.zip_cons_cons, List.zip_nil_right, putsL]
        go_simp
        go_wp2_with (((with_reducible show wpList _ _ _ (Oper.mk _ (Op.call (Call.mk (Callee.builtin Builtin.copy) _ _)) _ _ _ _ :: _) _ _); refine wpList_copyR rfl _ _ rfl b5 3 32 32 cs8 none 0 0 [] rfl (by rfl) rfl HS12.out.k5 (by decide) (by rw [HC835.out]; decide) (RB.nil w5 0 none) ?_))
        intro w13 hb13 hg13
        have HS13 : Hid (DcS w w13 b2 rb b5 Ar cr r7 _) := Lib.hid (HS12.out.sto hb13.out hg13.out)
        have HED : Hid (Calls Tryz.prog 102 #[.pointer (some ⟨rb, 0, none⟩)] w13 (RetErr w13 (some (3, 1)))) := Lib.hid (by
          have := end_calls w13 rb Ar cr r7 HS13.out.rd (by rw [HR7.out]; have := H40.out; show l.length ≤ _; omega)
          have e : r7.fin = some (3, 1) := by
            rw [HR7.out]
            rfl
          rw [e] at this
          exact this)
        clear hb13 hg13 HS12
        go_wp2_with fail
        go_at_call 102
        with_reducible refine HED.out.mono ?_
        rintro e w14 ⟨⟨v, rfl, hv⟩, hb14⟩
        obtain ⟨g, rfl, hfl⟩ := errv_flt hv
        have HS14 : Hid (Blk w14 b2 zs ∧ Below w.heap.size w w14 ∧ w.heap.size ≤ b2) := Lib.hid ⟨by rw [HZS.out]; exact HS13.out.k2.below hb14 HS13.out.k2.lt, HS13.out.bel.trans (hb14.mono HS13.out.bel.size), HS13.out.lt1⟩
        have HIN : Hid (Calls Tryz.prog 47 #[flt g, .int .i64 0] w14 (RetInA w14 3)) := Lib.hid (in_any w14 g 3 0 (HG.out.below' HS14.out.2.1).hdl hfl)
        clear hv hb14 HED HS13 hfl
        unfold flt at HIN ⊢
        go_wp2_with (((with_reducible show wpList _ _ _ (Oper.mk _ (Op.build 47 _) _ _ _ _ :: _) _ _); refine wpList_buildS rfl _ _ rfl #[] zs.toArray (by simp only [List.map_toArray, List.map_nil]) (HBZ.out _) ?_))
        go_at_call 47
        with_reducible refine HIN.out.mono ?_
        rintro e w16 ⟨g3, rfl, hfl3, hb16⟩
        have HS16 : Hid (Blk w16 b2 zs ∧ Below w.heap.size w w16) := Lib.hid ⟨HS14.out.1.below hb16 HS14.out.1.lt, HS14.out.2.1.trans (hb16.mono HS14.out.2.1.size)⟩
        clear hb16 hfl3 HIN
        unfold flt
        go_wp2_with (((with_reducible show wpList _ _ _ (Oper.mk _ (Op.store 47 _ _) _ _ _ _ :: _) _ _); refine wpList_storeS sMan rfl _ _ rfl b2 _ zs rfl rfl HS16.out.1 ZM.out.2.1 ZM.out.2.1 ZM.out.2.2 ?_))
        intro w17 hb17 hg17
        have l1' := Lib.hid (run_loadS sMan b2 zs hb17 ZM.out.2.1)
        have HRES := Lib.hid (HOUT.out w17 g3 HDO.out (HS16.out.2.grown hg17 HS16.out.2.size (fun j e => by injection e with e; have := HS14.out.2.2; omega)))
        clear hb17 hg17 HOUT
        go_wp2
        exact bodyPost_ret (v := .tuple #[.agg zs.toArray, flt g3]) (by simp [results, Tryz.results80, asAddr, l1'.out, flt]) rfl HRES.out
end Go.Proofs.YtjfpoahmjgeogaaGreatDoor
