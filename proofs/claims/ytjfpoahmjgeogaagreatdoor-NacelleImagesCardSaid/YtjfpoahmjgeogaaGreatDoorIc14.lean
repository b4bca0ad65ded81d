/- Bundle 14 of the texts ImgLaw. -/
import Derived.Test.YtjfpoahmjgeogaaGreatDoorIc13
import Derived.Test.YtjfpoahmjgeogaaGreatDoorIc6
import Derived.Test.YtjfpoahmjgeogaaGreatDoorIc12
/- NacelleImages: the walk. -/
namespace Go.Proofs.YtjfpoahmjgeogaaGreatDoor
open Go.RowKit Nac Nac.Img Nac.Sha Nac.Crc Nac.Pvm
def HdR (w0 : World) (bd bp n : Nat) (s14 s11 s13 : Value) (wr : World) : Prop := ∃ (i : Nat) (s : List (List UInt8)) (O : Nat → Prop) (B bl br bg bs bq : Nat) (Ae : Option Addr) (ce : Nat) (Al : Option Addr) (nl cl : Nat), i ≤ 10 ∧ i ≤ n ∧ s14 = .int .i64 (i : Int) ∧ s11 = .pointer (some ⟨bl, 0, none⟩) ∧ s13 = .slice Al nl cl ∧
  ImS w0 wr bd bp i s (Dk.idle s) O B bl br bg bs bq Ae ce false zStg Al nl cl ∧ (∀ k, O k → k < B) ∧ B ≤ wr.heap.size
theorem sInst : SInfo 39 5 := ⟨by kernel_rfl, _, Tryz.underlying39, rfl⟩
theorem zInst : ((Tryz.prog.info? 39).bind (·.zero)) = some (.agg #[.slice none 0 0, .slice none 0 0, .int .i64 0, .int .i64 0, .slice none 0 0]) := by kernel_rfl
theorem flip8 : ∀ x : Nat, x < 256 → ∃ y : Nat, y < 256 ∧ Go.bits .xor .u8 (x : Int) 1 = (y : Int) := by
  intro x hx
  have h : ∀ x : _root_.Fin 256, ∃ y : _root_.Fin 256, Go.bits .xor .u8 ((x.val : Nat) : Int) 1 = ((y.val : Nat) : Int) := by decide +kernel
  obtain ⟨y, hy⟩ := h ⟨x, hx⟩
  exact ⟨y.val, y.isLt, hy⟩
theorem ImS.next {w0 w : World} {bd bp i B bl br bg bs bq ce nl cl : Nat} {Ae Al : Option Addr} {O : Nat → Prop} {s : List (List UInt8)} {d : Dk} {stg : Bool} {S : List Value} (h : ImS w0 w bd bp i s d O B bl br bg bs bq Ae ce stg S Al nl cl) : ImS w0 w bd bp (i + 1) s d O B bl br bg bs bq Ae ce stg S Al nl cl :=
  ⟨h.bel, h.dk, h.ds, h.oB, h.bB, h.pt, h.pn, h.ld, h.no, inv_step _ _ h.inv, h.la⟩
theorem ImS.fresh {w0 w : World} {bd bp i B bl br bg bs bq ce nl cl : Nat} {Ae Al : Option Addr} {O : Nat → Prop} {s : List (List UInt8)} {d : Dk} {stg : Bool} {S : List Value} (h : ImS w0 w bd bp i s d O B bl br bg bs bq Ae ce stg S Al nl cl) {b : Nat} (hb : w.heap.size ≤ b) : ¬ WS O bl br bg Ae b := fun e => by
  have hl := h.ld.lt
  rcases e with e | rfl | rfl | rfl | e
  · have := h.dk.own b e; omega
  · omega
  · omega
  · have := h.ld.log.blk.lt; omega
  · have := h.ld.log.lt b e; omega
theorem Inst.ok.at {w0 w : World} {x : Inst} (h : x.ok w0) (hb : Below w0.heap.size w0 w) : RIn w w.heap.size x.A0 x.code ∧ RB w w.heap.size x.A1 x.chunks ∧ RBo w x.A4 x.keep := ⟨(h.rc.below hb).mono hb.size, (h.rb.below hb).mono hb.size, fun hne => by
  obtain ⟨g, o, hA, hg, hc⟩ := h.rk hne
  exact ⟨g, o, hA, Nat.lt_of_lt_of_le hg hb.size, fun j hj => (hb.cell hg).trans (hc j hj)⟩⟩
def ChR (w0 : World) (bd bp i : Nat) (s : List (List UInt8)) (d : Dk) (O : Nat → Prop) (B bl br bg bs bq : Nat) (Ae : Option Addr) (ce : Nat) (Al : Option Addr) (nl cl bx bm : Nat) (xl ms : List Value) (gi ni : Nat) (im2 : List UInt8) (m : Man) (s19 s20 : Value) (wx : World) : Prop := ∃ (at_ k : Nat) (A' : Option Addr) (c' : Nat), at_ ≤ ni ∧ (at_ < ni → k ≤ 30) ∧ k ≤ 31 ∧ s19 = .int .i64 (at_ : Int) ∧ s20 = .int .i64 (k : Int) ∧
  RdI w0 wx bd bp i s d O B bl br bg bs bq Ae ce true (scells m A' at_ c') Al nl cl bx bm xl ms (some ⟨gi, 0, none⟩) im2 ∧ RB wx wx.heap.size A' (im2.take at_) ∧ at_ ≤ c' ∧ (∀ g, A'.map (·.block) = some g → g ≠ br ∧ B ≤ g)
set_option maxRecDepth 100000 in
set_option maxHeartbeats 4000000 in
theorem prog0_calls (w : World) (Ab : Option Addr) (n c : Nat) (l : List UInt8) (hn : n = l.length) (h : RB w w.heap.size Ab l) (hlc : n ≤ c) (h8 : n ≤ 1000000) (hg : Hdl w) : Calls Tryz.prog 20 #[.slice Ab n c] w (fun e w' => ∃ v v2, e = .returned v ∧ DecV l v v2 w' ∧ Below w.heap.size w w') := by
  subst hn
  have HD := Lib.hid (Decode_callsF w Ab c l h hlc h8 hg)
  obtain ⟨n, hn⟩ : ∃ n, n = l.length := ⟨_, rfl⟩
  rw [← hn] at HD ⊢
  clear h hlc h8 hg hn
  go_enter Tryz.func20, Tryz.ntmps20
  go_wp2_with fail
  go_at_call 17
  with_reducible refine HD.out.mono ?_
  rintro e w1 ⟨⟨v, v2, rfl, hd, _⟩, hb⟩
  clear HD
  go_wp2_with fail
  go_ret
  exact ⟨v, v2, rfl, hd, hb⟩
set_option maxRecDepth 100000 in
set_option maxHeartbeats 32000000 in
theorem images_calls (w0 : World) (hG : Gl w0) (A : Option Addr) (n c : Nat) (xs : List Inst) (hn : n = xs.length) (hR : RInst w0 A xs) (hx : ∀ x ∈ xs, x.ok w0) (hl : n ≤ 140737488351232) (words : Int) (st : Nat) (hst : st < 256) :
    Calls Tryz.prog 3 #[.slice A n c, .int .i64 words, .int .u8 (st : Int)] w0 (RetTrue w0) := by
  have HG := Lib.hid hG
  have HR := Lib.hid hR
  have HX := Lib.hid hx
  have HN := Lib.hid hn
  have HL := Lib.hid hl
  have HST := Lib.hid hst
  clear hG hR hx hn hl hst
  have HDN := Lib.hid (dnew_calls w0)
  go_enter Tryz.func3, Tryz.ntmps3
  go_wp2_with fail
  go_at_call 4
  with_reducible refine HDN.out.mono ?_
  rintro e w1 ⟨bd, O, rfl, hdk, hO, hb1⟩
  have HD1 := Lib.hid hdk
  have HO1 := Lib.hid hO
  have HE1 : Hid (Below w0.heap.size w0 w1) := Lib.hid hb1
  have HEN := Lib.hid (enew_calls w1 bd O Dk.zero hdk)
  clear hdk hO hb1 HDN
  go_wp2_with (((with_reducible show wpList _ _ _ (Oper.mk _ (Op.build 31 _) _ _ _ _ :: _) _ _); refine wpList_buildS rfl _ _ rfl #[(1, .int .i64 40)] #[.int .i64 0, .int .i64 40] (by simp only [List.map_toArray, List.map_cons, List.map_nil]; rfl) (run_build _ _ _ _ (by kernel_rfl)) ?_))
  go_at_call 5
  with_reducible refine HEN.out.mono ?_
  rintro e w2 ⟨bp, rfl, hpt, hbp, hb2⟩
  have HD2 : Hid (DkM w2 bd O Dk.zero) := Lib.hid (HD1.out.below hb2)
  have HE2 : Hid (Below w0.heap.size w0 w2) := Lib.hid (HE1.out.trans (hb2.mono HE1.out.size))
  have HP2 := Lib.hid hpt
  have HBP : Hid (w0.heap.size ≤ bp ∧ ¬ O bp) := Lib.hid ⟨Nat.le_trans HE1.out.size hbp, fun e => by have := HD1.out.own bp e; omega⟩
  have HLO := Lib.hid (lopen_calls w2 (HG.out.below' HE2.out) bp bd O Dk.zero hpt HD2.out rfl rfl)
  clear hpt hbp hb2 HD1 HE1 HEN
  obtain ⟨s0, hs0⟩ : ∃ s, s = List.replicate 40 zeroS := ⟨_, rfl⟩
  have HS0 : Hid (Dk.zero = Dk.idle s0 ∧ Inv shaF okPF s0 0 ∧ (loadF shaF okPF (secAt s0)).img = none) := Lib.hid (by rw [hs0]; exact ⟨zero_idle, inv_zero _ _, zero_img _ _⟩)
  rw [HS0.out.1] at HLO HD2
  clear hs0
  go_wp2_with fail
  go_at_call 6
  with_reducible refine HLO.out.mono ?_
  rintro e w3 ⟨bl, br, bg, bs, bq, Ae, ce, rfl, hld, hb3⟩
  have HH0 : Hid (HdR w0 bd bp n (.int .i64 0) (.pointer (some ⟨bl, 0, none⟩)) (.slice none 0 0) w3) := Lib.hid ⟨0, s0, O, w2.heap.size, bl, br, bg, bs, bq, Ae, ce, none, 0, 0, Nat.zero_le _, Nat.zero_le _, rfl, rfl, rfl,
    ImS.mk' (HE2.out.trans (hb3.mono HE2.out.size)) (HD2.out.below hb3) HO1.out HE2.out.size (Blk.below HP2.out hb3 (Blk.lt HP2.out)) HBP.out ⟨hld, fun k hk => HD2.out.own k hk, Blk.lt HP2.out⟩ HS0.out.2.1 (by rw [HS0.out.2.2]; exact ⟨rfl, rfl, rfl⟩), fun k hk => HD2.out.own k hk, hb3.size⟩
  clear hld hb3 HD2 HE2 HP2 HBP HLO HS0
  go_wp2_with fail
  go_loopw [14, 11, 13] (fun s14 s11 s13 wr => HdR w0 bd bp n s14 s11 s13 wr) (fun s14 _ _ _ => 10 - (intOf s14).toNat)
  case atStart => exact HH0.out
  case round =>
    as_aux_lemma =>
    obtain ⟨i, s, O2, B2, bl2, br2, bg2, bs2, bq2, Ae2, ce2, Al, nl, cl, hi10, hin, rfl, rfl, rfl, him, hol, hBs⟩ := hrel
    have HI10 := Lib.hid hi10
    have HIN := Lib.hid hin
    have HIM := Lib.hid him
    have HOL := Lib.hid hol
    have HBS := Lib.hid hBs
    clear hi10 hin him hol hBs HH0
    by_cases hgo : i < n ∧ i < 10
    · obtain ⟨hgo1, hgo2⟩ := hgo
      obtain ⟨x, hxi⟩ : ∃ x, xs[i]? = some x := ⟨_, List.getElem?_eq_getElem (by rw [← HN.out]; exact hgo1)⟩
      obtain ⟨hiv, hxe⟩ := List.getElem?_eq_some_iff.1 hxi
      obtain ⟨g, o, hA, hg, hrg⟩ := HR.out (by rintro rfl; simp at hiv)
      subst hA
      have HXK : Hid (x.ok w0) := Lib.hid (HX.out x (List.mem_of_getElem? hxi))
      have HRG : Hid (wr.rangeAt g (o + i * 5) (xcells x)) := Lib.hid (by
        have h := hrg i hiv
        rw [hxe] at h
        intro j v hv
        exact (HIM.out.bel.cell (p := ⟨g, _, none⟩) hg).trans (h j v hv))
      clear hxi hiv hxe hg hrg
      obtain ⟨xl, hxl⟩ : ∃ l, l = xcells x := ⟨_, rfl⟩
      obtain ⟨nc, hnc⟩ : ∃ k, k = x.code.length := ⟨_, rfl⟩
      obtain ⟨nb, hnb⟩ : ∃ k, k = x.chunks.length := ⟨_, rfl⟩
      obtain ⟨nk, hnk⟩ : ∃ k, k = x.keep.length := ⟨_, rfl⟩
      obtain ⟨A0, hA0⟩ : ∃ k, k = x.A0 := ⟨_, rfl⟩
      obtain ⟨A1, hA1⟩ : ∃ k, k = x.A1 := ⟨_, rfl⟩
      obtain ⟨A4, hA4⟩ : ∃ k, k = x.A4 := ⟨_, rfl⟩
      obtain ⟨c0, hc0⟩ : ∃ k, k = x.c0 := ⟨_, rfl⟩
      obtain ⟨c1, hc1⟩ : ∃ k, k = x.c1 := ⟨_, rfl⟩
      obtain ⟨c4, hc4⟩ : ∃ k, k = x.c4 := ⟨_, rfl⟩
      obtain ⟨fl, hfl⟩ : ∃ k, k = x.flip := ⟨_, rfl⟩
      obtain ⟨cu, hcu⟩ : ∃ k, k = x.cut := ⟨_, rfl⟩
      have HXL : Hid (xl.length = 5 ∧ xl[0]? = some (.slice A0 nc c0) ∧ xl[1]? = some (.slice A1 nb c1) ∧ xl[2]? = some (.int .i64 fl) ∧ xl[3]? = some (.int .i64 cu) ∧ xl[4]? = some (.slice A4 nk c4) ∧ ∀ v ∈ xl, v.oneCell' = true) := Lib.hid (by
        rw [hxl, hnc, hnb, hnk, hA0, hA1, hA4, hc0, hc1, hc4, hfl, hcu]
        refine ⟨rfl, rfl, rfl, rfl, rfl, rfl, fun v hv => ?_⟩
        simp only [xcells, List.mem_cons, List.not_mem_nil, or_false] at hv
        rcases hv with rfl | rfl | rfl | rfl | rfl <;> rfl)
      have HXE : Hid (nc = x.code.length ∧ nb = x.chunks.length ∧ nk = x.keep.length ∧ A0 = x.A0 ∧ A1 = x.A1 ∧ A4 = x.A4 ∧ c0 = x.c0 ∧ c1 = x.c1 ∧ c4 = x.c4 ∧ fl = x.flip ∧ cu = x.cut) := Lib.hid ⟨hnc, hnb, hnk, hA0, hA1, hA4, hc0, hc1, hc4, hfl, hcu⟩
      rw [← hxl] at HRG
      clear hxl hnc hnb hnk hA0 hA1 hA4 hc0 hc1 hc4 hfl hcu HR HX
      have q1 : (i : Int) < n := by omega
      have q2 : (i : Int) < 10 := by omega
      have HI2 : Hid (i < n ∧ i < 10) := Lib.hid ⟨hgo1, hgo2⟩
      obtain ⟨z5, hz5⟩ : ∃ l, l = ([.slice none 0 0, .slice none 0 0, .int .i64 0, .int .i64 0, .slice none 0 0] : List Value) := ⟨_, rfl⟩
      have HZ5 : Hid (((Tryz.prog.info? 39).bind (·.zero)) = some (.agg z5.toArray) ∧ z5.length = 5) := Lib.hid (by rw [hz5]; exact ⟨zInst, rfl⟩)
      clear hz5
      go_wp2_with (first | ((with_reducible show wpList _ _ _ (Oper.mk (some 69) (Op.load 39 _) _ _ _ _ :: _) _ _); refine wpList_loadM sInst rfl _ rfl g (o + i * 5) xl rfl HRG.out HXL.out.1 ?_) | ((with_reducible show wpList _ _ _ (Oper.mk (some 15) (Op.alloc 39) _ _ _ _ :: _) _ _); refine wpList_allocS _ HZ5.out.1 rfl rfl ?_))
      intro wa hba hga hsa
      obtain ⟨bx, hbx⟩ : ∃ b, b = wr.heap.size := ⟨_, rfl⟩
      have HBX := Lib.hid hbx
      rw [← hbx] at hba ⊢
      have HZA := Lib.hid hba
      have HEA : Hid (Below wr.heap.size wr wa) := Lib.hid (gbelow hga)
      clear hba hga hsa hbx HRG
      go_wp2_with (((with_reducible show wpList _ _ _ (Oper.mk _ (Op.store 39 _ _) _ _ _ _ :: _) _ _); refine wpList_storeS sInst rfl _ _ rfl bx _ xl rfl rfl HZA.out HZ5.out.2 HXL.out.1 HXL.out.2.2.2.2.2.2 ?_))
      intro wb hbb hgb
      have HXB := Lib.hid hbb
      have HEB : Hid (Below wr.heap.size wr wb) := Lib.hid (HEA.out.grown hgb HEA.out.size (fun j e => by injection e with e; have := HBX.out; omega))
      have k0 : wb.cell? ⟨bx, 0, none⟩ = some (.slice A0 nc c0) := hbb.cell HXL.out.2.1
      have HCK : Hid (Calls Tryz.prog 7 #[.slice A0 nc c0] wb (RetErr wb (check x.code))) := Lib.hid (by
        have h := HXE.out
        rw [h.1, h.2.2.2.1, h.2.2.2.2.2.2.1]
        exact check_calls wb x.A0 x.c0 x.code (HXK.out.at (HIM.out.bel.trans (HEB.out.mono HIM.out.bel.size))).1 HXK.out.lc)
      clear hbb hgb HZA HEA
      go_wp2_with fail
      go_at_call 7
      with_reducible refine HCK.out.mono ?_
      rintro e wc ⟨⟨vc, rfl, hev⟩, hbc⟩
      have HEC' : Hid (Below wr.heap.size wr wc) := Lib.hid (HEB.out.trans (hbc.mono HEB.out.size))
      have HXC : Hid (Blk wc bx xl) := Lib.hid (HXB.out.below hbc HXB.out.lt)
      clear hbc HCK HEB HXB k0
      cases hck : check x.code with
      | some ck =>
        rw [hck] at hev
        obtain ⟨ck1, ck2⟩ := ck
        obtain ⟨g8, rfl, _⟩ := (show ∃ g, vc = .iface 131 (.pointer (some ⟨g, 0, none⟩)) ∧ Box wc g [.int .i64 ck1, .int .i64 ck2, .nilIface] from hev)
        have HNX : Hid (ImS w0 wc bd bp (i + 1) s (Dk.idle s) O2 B2 bl2 br2 bg2 bs2 bq2 Ae2 ce2 false zStg Al nl cl ∧ B2 ≤ wc.heap.size) := Lib.hid ⟨(HIM.out.below HEC'.out).next, Nat.le_trans HBS.out HEC'.out.size⟩
        clear hck hev
        as_aux_lemma =>
        go_wp2_with fail
        go_roundw
        case rel => exact ⟨i + 1, s, O2, B2, bl2, br2, bg2, bs2, bq2, Ae2, ce2, Al, nl, cl, HI2.out.2, HI2.out.1, by go_num, rfl, rfl, HNX.out.1, HOL.out, HNX.out.2⟩
        case measure => simp [intOf]; omega
      | none =>
      as_aux_lemma =>
      rw [hck] at hev
      obtain rfl := (show vc = .nilIface from hev)
      obtain ⟨im, him⟩ : ∃ l, l = encI x.code := ⟨_, rfl⟩
      obtain ⟨ni, hni⟩ : ∃ k, k = im.length := ⟨_, rfl⟩
      have HNI : Hid (ni = im.length ∧ 4 ≤ ni ∧ ni ≤ 512 ∧ ni % 4 = 0) := Lib.hid (by
        have h1 := check_len hck
        have h2 := encI_len x.code
        rw [← him] at h2
        exact ⟨hni, by omega, by omega, by omega⟩)
      obtain ⟨v1, hv1⟩ : ∃ k, k = i + 1 := ⟨_, rfl⟩
      obtain ⟨m, hm⟩ : ∃ m : Man, m = ⟨0, v1, (ni : Int), shaF im⟩ := ⟨_, rfl⟩
      have HM : Hid (m = ⟨0, v1, (ni : Int), shaF im⟩ ∧ m.okB = true ∧ m.sum.length = 32 ∧ m.part = 0 ∧ m.ver = v1 ∧ v1 = i + 1) := Lib.hid (by
        refine ⟨hm, ?_, by rw [hm]; exact sha_len im, by rw [hm], by rw [hm], hv1⟩
        have h := man_ok shaF hck v1
        rw [← him] at h
        rw [hm, hni]
        exact h)
      have HENC : Hid (Calls Tryz.prog 8 #[.slice A0 nc c0] wc (RetPut wc im)) := Lib.hid (by
        have h := HXE.out
        rw [h.1, h.2.2.2.1, h.2.2.2.2.2.2.1, him]
        exact Encode_callsO wc x.A0 x.c0 x.code (HXK.out.at (HIM.out.bel.trans (HEC'.out.mono HIM.out.bel.size))).1 (by have := (check_len hck).2; omega))
      have k0 : wc.cell? ⟨bx, 0, none⟩ = some (.slice A0 nc c0) := HXC.out.cell HXL.out.2.1
      clear hck hev him hm hv1
      go_wp2_with fail
      go_at_call 8
      with_reducible refine HENC.out.mono ?_
      rintro e wd ⟨Ai, ci, rfl, hob, hbd⟩
      rw [← hni]
      obtain ⟨gi, rfl, hgi, hgr⟩ := hob.at (k := 0) (by have := HNI.out; omega)
      have HED : Hid (Below wr.heap.size wr wd) := Lib.hid (HEC'.out.trans (hbd.mono HEC'.out.size))
      have HXD : Hid (Blk wd bx xl) := Lib.hid (HXC.out.below hbd HXC.out.lt)
      have HOBD : Hid (OB wd wr.heap.size (some ⟨gi, 0, none⟩) ci im) := Lib.hid (hob.mono HEC'.out.size)
      have HGI : Hid (wr.heap.size ≤ gi ∧ bx < gi ∧ ni ≤ ci) := Lib.hid ⟨Nat.le_trans HEC'.out.size hgi, Nat.lt_of_lt_of_le HXC.out.lt hgi, by have h := hob.len; rw [← hni] at h; exact h⟩
      have HOF : Hid (Calls Tryz.prog 9 #[.int .i64 0, .int .u32 ((i : Int) + 1), .slice (some ⟨gi, 0, none⟩) ni ci] wd (RetMan wd m)) := Lib.hid (by
        rw [show (i : Int) + 1 = (v1 : Int) from by have := HM.out.2.2.2.2.2; omega]
        have h := iof_calls wd (HG.out.below' (HIM.out.bel.trans (HED.out.mono HIM.out.bel.size))) v1 (some ⟨gi, 0, none⟩) ni ci im HNI.out.1 hob.rb HGI.out.2.2 (by have := HNI.out; omega)
        rw [← HM.out.1] at h
        exact h)
      clear hgr hob hgi hbd hni HENC k0 HXC HEC'
      go_wp2_with fail
      go_at_call 9
      with_reducible refine HOF.out.mono ?_
      rintro e we ⟨rfl, hbe⟩
      obtain ⟨ms, hms⟩ : ∃ l, l = mcells m := ⟨_, rfl⟩
      have HMS : Hid (ms = mcells m ∧ ms.length = 35 ∧ ∀ v ∈ ms, v.oneCell' = true) := Lib.hid (by rw [hms]; exact ⟨rfl, mcells_len m HM.out.2.2.1, mcells_one m⟩)
      rw [← hms]
      have HEE : Hid (Below wr.heap.size wr we) := Lib.hid (HED.out.trans (hbe.mono HED.out.size))
      have HXE5 : Hid (Blk we bx xl) := Lib.hid (HXD.out.below hbe HXD.out.lt)
      have HOBE : Hid (OB we wr.heap.size (some ⟨gi, 0, none⟩) ci im) := Lib.hid (HOBD.out.below hbe (Nat.le_refl _))
      clear hms hbe HOF HXD HOBD HED
      obtain ⟨zm, hzm⟩ : ∃ l, l = mcells zMan := ⟨_, rfl⟩
      have HZM : Hid (((Tryz.prog.info? 47).bind (·.zero)) = some (.agg zm.toArray) ∧ zm.length = 35) := Lib.hid (by rw [hzm]; exact ⟨zeroMan, rfl⟩)
      clear hzm
      go_wp2_with (((with_reducible show wpList _ _ _ (Oper.mk (some 17) (Op.alloc 47) _ _ _ _ :: _) _ _); refine wpList_allocS _ HZM.out.1 rfl rfl ?_))
      intro wf hbf hgf hsf
      obtain ⟨bm, hbm⟩ : ∃ b, b = we.heap.size := ⟨_, rfl⟩
      have HBM := Lib.hid hbm
      rw [← hbm] at hbf ⊢
      have HZF := Lib.hid hbf
      have HEF : Hid (Below wr.heap.size wr wf) := Lib.hid (HEE.out.trans ((gbelow hgf).mono HEE.out.size))
      have HXF : Hid (Blk wf bx xl) := Lib.hid (HXE5.out.grown hgf (by simp))
      have HOBF : Hid (OB wf wr.heap.size (some ⟨gi, 0, none⟩) ci im) := Lib.hid (HOBE.out.below (gbelow hgf) (Nat.le_refl _))
      have HGM : Hid (bx < bm ∧ gi < bm) := Lib.hid (by rw [hbm]; exact ⟨HXE5.out.lt, (HOBE.out.lt gi rfl).2⟩)
      clear hbf hgf hsf hbm HEE HXE5 HOBE
      go_wp2_with (((with_reducible show wpList _ _ _ (Oper.mk _ (Op.store 47 _ _) _ _ _ _ :: _) _ _); refine wpList_storeS sMan rfl _ _ rfl bm _ ms rfl rfl HZF.out HZM.out.2 HMS.out.2.1 HMS.out.2.2 ?_))
      intro wg hbg hgg
      have HMG := Lib.hid hbg
      have HEG : Hid (Below wr.heap.size wr wg) := Lib.hid (HEF.out.grown hgg HEF.out.size (fun j e => by injection e with e; have := HGM.out.1; have := HBX.out; omega))
      have HXG : Hid (Blk wg bx xl) := Lib.hid (HXF.out.grown hgg (fun e => by injection e with e; have := HGM.out.1; omega))
      have HOBG : Hid (OB wg wr.heap.size (some ⟨gi, 0, none⟩) ci im) := Lib.hid (HOBF.out.kept hgg (.inr fun e => by injection e with e; have := HGM.out.2; simp only at e; omega))
      have HIG : Hid (ImS w0 wg bd bp i s (Dk.idle s) O2 B2 bl2 br2 bg2 bs2 bq2 Ae2 ce2 false zStg Al nl cl) := Lib.hid (HIM.out.below HEG.out)
      have HBE : Hid (Calls Tryz.prog 10 #[.pointer (some ⟨bl2, 0, none⟩), .agg ms.toArray] wg (RetBe wg B2 bl2 br2 bg2 bs2 bq2 Ae2 ce2 bd (loadF shaF okPF (secAt s)) m (logAt s).length)) := Lib.hid (by
        rw [HMS.out.1]
        exact lbegin_calls wg HIG.out.ld (scells_len zMan rfl _ _ _) m HM.out.2.2.1 HM.out.2.1 HM.out.2.2.2.1 (fun b v hv => by have h := HIM.out.inv.ver b v hv; rw [HM.out.2.2.2.2.1, HM.out.2.2.2.2.2]; omega))
      clear hbg hgg HZF HEF HXF HOBF HZM
      go_wp2_with (((with_reducible show wpList _ _ _ (Oper.mk (some 83) (Op.load 47 _) _ _ _ _ :: _) _ _); refine wpList_loadS sMan rfl _ rfl bm ms rfl HMG.out HMS.out.2.1 ?_))
      go_at_call 10
      with_reducible refine HBE.out.mono ?_
      rintro e wh ⟨rfl, hldh, hgh, hk4⟩
      have HRD : Hid (RdI w0 wh bd bp i s (Dk.idle s) O2 B2 bl2 br2 bg2 bs2 bq2 Ae2 ce2 true (scells m none 0 0) Al nl cl bx bm xl ms (some ⟨gi, 0, none⟩) im) := Lib.hid (by
        have hbr : br2 < wr.heap.size := HIM.out.ld.lt.2.1
        have h1 := HGI.out
        have h2 := HGM.out
        have h3 := HBX.out
        have hlt := (HOBG.out.lt gi rfl).2
        refine ⟨HIG.out.reg hgh hldh, HXG.out.grown hgh (fun e => by injection e with e; omega), HMG.out.grown hgh (fun e => by injection e with e; omega), rb_keep HOBG.out.rb (fun g hg => by
          injection hg with hg
          have hg : gi = g := hg
          exact hgh.block g (by omega) (fun e => by injection e with e; omega)) hgh.size, HIM.out.fresh (Nat.le_of_eq h3.symm), HIM.out.fresh (by omega), fun g hg => ?_⟩
        injection hg with hg
        have hg : gi = g := hg
        rw [← hg]
        exact ⟨Nat.lt_of_lt_of_le hlt hgh.size, HIM.out.fresh h1.1⟩)
      have HOBH : Hid (OB wh wr.heap.size (some ⟨gi, 0, none⟩) ci im) := Lib.hid (HOBG.out.kept hgh (.inr fun e => by injection e with e; have := HGI.out.1; have := HIM.out.ld.lt.2.1; simp only at e; omega))
      have HRGI : Hid (RgI wh br2 wr.heap.size) := Lib.hid (by
        obtain ⟨A', n', c', h1, h2⟩ := HIM.out.rgi.below HEG.out HIM.out.ld.lt.2.1
        exact ⟨A', n', c', hk4 _ h1, h2⟩)
      clear hldh hgh hk4 HBE HIG HXG HMG HOBG HEG
      go_upto_region 20 with (fail)
      go_cut [18] (fun s18 wx => ∃ cor : Bool, s18 = .bool cor ∧ Hid (cor = true → 0 ≤ fl ∧ fl < (ni : Int)) ∧ wh = wx)
      case first =>
        as_aux_lemma =>
        have k2 : wh.cell? ⟨bx, 2, none⟩ = some (.int .i64 fl) := HRD.out.xb.cell HXL.out.2.2.2.1
        rcases (by omega : ¬ 0 ≤ fl ∨ (0 ≤ fl ∧ ¬ fl < (ni : Int)) ∨ (0 ≤ fl ∧ fl < (ni : Int))) with p1 | ⟨p1, p2⟩ | ⟨p1, p2⟩
        · go_wp2_with fail
          go_meet
          case rel => exact ⟨false, rfl, Lib.hid (fun h => by cases h), rfl⟩
        · go_wp2_with fail
          go_meet
          case rel => exact ⟨false, rfl, Lib.hid (fun h => by cases h), rfl⟩
        · have HP : Hid (0 ≤ fl ∧ fl < (ni : Int)) := Lib.hid ⟨p1, p2⟩
          go_wp2_with fail
          go_meet
          case rel => exact ⟨true, rfl, Lib.hid (fun _ => HP.out), rfl⟩
      case rest =>
      as_aux_lemma =>
      obtain ⟨cor, rfl, HCOR, rfl⟩ := hcut
      go_upto_if 96 with (fail)
      go_cut [18] (fun s18 wx => s18 = .bool cor ∧ ∃ im2, Hid (im2.length = ni) ∧ Hid (RdI w0 wx bd bp i s (Dk.idle s) O2 B2 bl2 br2 bg2 bs2 bq2 Ae2 ce2 true (scells m none 0 0) Al nl cl bx bm xl ms (some ⟨gi, 0, none⟩) im2) ∧ Hid (w0.heap.size ≤ wx.heap.size))
      case first =>
        as_aux_lemma =>
        have HLO : Hid (im.length = ni) := Lib.hid HNI.out.1.symm
        have HSZ : Hid (w0.heap.size ≤ wh.heap.size) := Lib.hid HRD.out.core.bel.size
        cases cor with
        | false =>
          go_wp2_with fail
          go_meet
          case rel => exact ⟨rfl, im, HLO, HRD, HSZ⟩
        | true =>
        obtain ⟨fp1, fp2⟩ := HCOR.out rfl
        obtain ⟨fk, rfl⟩ := Int.eq_ofNat_of_zero_le fp1
        have QF : Hid (fk < ni) := Lib.hid (by omega)
        have hfk : fk < im.length := by rw [HLO.out]; exact QF.out
        obtain ⟨y0, hy0⟩ : ∃ y, y = (im[fk]).toNat := ⟨_, rfl⟩
        obtain ⟨y1, hy1, hyx⟩ := flip8 y0 (by rw [hy0]; exact UInt8.toNat_lt _)
        have QX : Hid (bits .xor .u8 (y0 : Int) 1 = (y1 : Int)) := Lib.hid hyx
        have HY1 := Lib.hid hy1
        have CX : Hid (∀ w', Below wh.drew.heap.size wh.drew w' → w'.cell? ⟨bx, 2, none⟩ = some (.int .i64 (fk : Int)) ∧ w'.cell? ⟨gi, fk, none⟩ = some (.int .u8 (y0 : Int))) := Lib.hid fun w' hb => by
          refine ⟨(HRD.out.xb.keep (hb.block bx HRD.out.xb.lt)).cell HXL.out.2.2.2.1, ?_⟩
          rw [hy0]
          exact (hb.cell (p := ⟨gi, fk, none⟩) (HOBH.out.lt gi rfl).2).trans (HOBH.out.cellAt hfk)
        clear hfk hy0 hy1 hyx fp1 fp2
        go_wp2_with fail
        refine region_tails 10 (fun ix9 => ([.is (.slice (some ⟨gi, 0, none⟩) ni ci), .is (.pointer (some ⟨bx, 2, none⟩)), .is (.int .i64 (fk : Int)), .is (.slice (some ⟨gi, 0, none⟩) ni ci), .is (.pointer (some ⟨bx, 2, none⟩)), .is (.int .i64 (fk : Int)), .is (.pointer (some ⟨gi, fk, none⟩)), .is (.int .u8 (y0 : Int)), .is (.int .u8 (y1 : Int)), .is (.pointer (some ⟨gi, fk, none⟩))] : List VD).getD ix9 (.is undef)) [some 97, some 98, some 99, some 100, some 101, some 102, some 103, some 104, some 105, some 106] (by kernel_rfl) (by kernel_rfl) (by kernel_rfl) (by kernel_rfl) rfl (fun ii hii => ?_) ?_
        · match ii, hii with
          | 0, _ => exact mstep_first rfl (mwant_none rfl) 16 (Or.inl rfl) (by kernel_rfl) (fun _ _ => rfl)
          | 1, _ => exact mstep_pure rfl (mwant_none rfl) (fun aa ww cc => ⟨.pointer (some ⟨bx, 2, none⟩), by have e0 : aa.tmps.getD 15 undef = .pointer (some ⟨bx, 0, none⟩) := (cc.orig 15 (by kernel_rfl)).trans rfl; simp only [execOp, Act.eval]; go_simp, rfl⟩)
          | 2, _ => exact mstep_pure rfl (mwant_none rfl) (fun aa ww cc => ⟨.int .i64 (fk : Int), by have e0 : aa.tmps.getD 98 undef = .pointer (some ⟨bx, 2, none⟩) := cc.slot 1 98 (by kernel_rfl) rfl; obtain ⟨q1, q2⟩ := CX.out _ cc.below; simp only [execOp, Act.eval]; go_simp, rfl⟩)
          | 3, _ => exact mstep_first rfl (mwant_none rfl) 16 (Or.inl rfl) (by kernel_rfl) (fun _ _ => rfl)
          | 4, _ => exact mstep_pure rfl (mwant_none rfl) (fun aa ww cc => ⟨.pointer (some ⟨bx, 2, none⟩), by have e0 : aa.tmps.getD 15 undef = .pointer (some ⟨bx, 0, none⟩) := (cc.orig 15 (by kernel_rfl)).trans rfl; simp only [execOp, Act.eval]; go_simp, rfl⟩)
          | 5, _ => exact mstep_pure rfl (mwant_none rfl) (fun aa ww cc => ⟨.int .i64 (fk : Int), by have e0 : aa.tmps.getD 101 undef = .pointer (some ⟨bx, 2, none⟩) := cc.slot 4 101 (by kernel_rfl) rfl; obtain ⟨q1, q2⟩ := CX.out _ cc.below; simp only [execOp, Act.eval]; go_simp, rfl⟩)
          | 6, _ => exact mstep_pure rfl (mwant_none rfl) (fun aa ww cc => ⟨.pointer (some ⟨gi, fk, none⟩), by have e0 : aa.tmps.getD 100 undef = .slice (some ⟨gi, 0, none⟩) ni ci := cc.slot 3 100 (by kernel_rfl) rfl; have e1 : aa.tmps.getD 102 undef = .int .i64 (fk : Int) := cc.slot 5 102 (by kernel_rfl) rfl; have q := QF.out; simp only [execOp, Act.eval]; go_simp, rfl⟩)
          | 7, _ => exact mstep_pure rfl (mwant_none rfl) (fun aa ww cc => ⟨.int .u8 (y0 : Int), by have e0 : aa.tmps.getD 103 undef = .pointer (some ⟨gi, fk, none⟩) := cc.slot 6 103 (by kernel_rfl) rfl; obtain ⟨q1, q2⟩ := CX.out _ cc.below; simp only [execOp, Act.eval]; go_simp, rfl⟩)
          | 8, _ => exact mstep_pure rfl (mwant_none rfl) (fun aa ww cc => ⟨.int .u8 (y1 : Int), by have e0 : aa.tmps.getD 104 undef = .int .u8 (y0 : Int) := cc.slot 7 104 (by kernel_rfl) rfl; have q := QX.out; simp only [execOp, Act.eval]; go_simp, rfl⟩)
          | 9, _ => exact mstep_pure rfl (mwant_none rfl) (fun aa ww cc => ⟨.pointer (some ⟨gi, fk, none⟩), by have e0 : aa.tmps.getD 97 undef = .slice (some ⟨gi, 0, none⟩) ni ci := cc.slot 0 97 (by kernel_rfl) rfl; have e1 : aa.tmps.getD 99 undef = .int .i64 (fk : Int) := cc.slot 2 99 (by kernel_rfl) rfl; have q := QF.out; simp only [execOp, Act.eval]; go_simp, rfl⟩)
          | n + 10, h => exact absurd h (by show ¬ (n + 10 < 10); omega)
        · intro VV w5 hlen hb5 hok
          match VV, hlen with
          | [v0, v1, v2, v3, v4, v5, v6, v7, v8, v9], _ =>
            obtain rfl : v0 = .slice (some ⟨gi, 0, none⟩) ni ci := hok 0 97 rfl
            obtain rfl : v1 = .pointer (some ⟨bx, 2, none⟩) := hok 1 98 rfl
            obtain rfl : v2 = .int .i64 (fk : Int) := hok 2 99 rfl
            obtain rfl : v3 = .slice (some ⟨gi, 0, none⟩) ni ci := hok 3 100 rfl
            obtain rfl : v4 = .pointer (some ⟨bx, 2, none⟩) := hok 4 101 rfl
            obtain rfl : v5 = .int .i64 (fk : Int) := hok 5 102 rfl
            obtain rfl : v6 = .pointer (some ⟨gi, fk, none⟩) := hok 6 103 rfl
            obtain rfl : v7 = .int .u8 (y0 : Int) := hok 7 104 rfl
            obtain rfl : v8 = .int .u8 (y1 : Int) := hok 8 105 rfl
            obtain rfl : v9 = .pointer (some ⟨gi, fk, none⟩) := hok 9 106 rfl
            have hb5' : Below wh.heap.size wh w5 := ⟨hb5.os, hb5.tape, hb5.output, hb5.size, hb5.block⟩
            have HRD5 := Lib.hid (HRD.out.below hb5')
            have HOB5 : Hid (OB w5 wr.heap.size (some ⟨gi, 0, none⟩) ci im) := Lib.hid (HOBH.out.below hb5' (Nat.le_refl _))
            have HRG5 : Hid (RgI w5 br2 wr.heap.size) := Lib.hid (HRGI.out.below hb5' HRD.out.core.ld.lt.2.1)
            have HCF : Hid (w5.cell? ⟨gi, fk, none⟩ = some (.int .u8 (y0 : Int))) := Lib.hid ((CX.out w5 ⟨hb5.os, hb5.tape, hb5.output, hb5.size, hb5.block⟩).2)
            clear hb5 hb5' hok CX
            simp only [List.zip_cons_cons, List.zip_nil_right, putsL]
            go_simp
            go_wp2_with (((with_reducible show wpList _ _ _ (Oper.mk _ (Op.store 5 _ _) _ _ _ _ :: _) _ _); refine wpList_store1 rfl 5 _ _ rfl gi fk (.int .u8 (y1 : Int)) _ rfl (by rfl) HCF.out (HOB5.out.freeAt fk) (by kernel_rfl) rfl ?_))
            intro w6 he6
            have HRES : Hid (∃ im2 : List UInt8, im2.length = ni ∧ RdI w0 w6 bd bp i s (Dk.idle s) O2 B2 bl2 br2 bg2 bs2 bq2 Ae2 ce2 true (scells m none 0 0) Al nl cl bx bm xl ms (some ⟨gi, 0, none⟩) im2 ∧ w0.heap.size ≤ w6.heap.size) := Lib.hid (by
              have he := he6.out
              subst he
              have hgr := grown_setCell w5 ⟨gi, fk, none⟩ (.int .u8 (y1 : Int))
              have hob := HOB5.out.set fk (UInt8.ofNat y1) (v := .int .u8 (y1 : Int)) (bv_of y1 HY1.out).symm
              have hlt := HIM.out.ld.lt
              refine ⟨im.set fk (UInt8.ofNat y1), by rw [List.length_set]; exact HLO.out, HRD5.out.flip hgr (Nat.le_trans HIM.out.bel.size HGI.out.1) HRG5.out HGI.out.1 (Blk.lt HIM.out.pt) hlt.2.2.1 hlt.2.2.2 HIM.out.la.lt (by have := HGI.out.2.1; omega) (by have := HGM.out.2; omega) hob.rb, Nat.le_trans HRD5.out.core.bel.size hgr.size⟩)
            clear he6 HCF
            go_wp2_with fail
            go_meet
            case rel =>
              obtain ⟨im2, h1, h2, h3⟩ := HRES.out
              exact ⟨rfl, im2, Lib.hid h1, Lib.hid h2, Lib.hid h3⟩
      case rest =>
      as_aux_lemma =>
      obtain ⟨rfl, im2, HLI, HRF, HSZF⟩ := hcut
      have HC0 : Hid (ChR w0 bd bp i s (Dk.idle s) O2 B2 bl2 br2 bg2 bs2 bq2 Ae2 ce2 Al nl cl bx bm xl ms gi ni im2 m (.int .i64 0) (.int .i64 0) wc) := Lib.hid ⟨0, 0, none, 0, Nat.zero_le _, fun _ => Nat.zero_le _, Nat.zero_le _, rfl, rfl, HRF.out, RB.nil _ _ _, Nat.le_refl _, fun g hg => by cases hg⟩
      clear HOBH HRGI HRD
      go_wp2_with fail
      go_loopw [19, 20] (fun s19 s20 wx => ChR w0 bd bp i s (Dk.idle s) O2 B2 bl2 br2 bg2 bs2 bq2 Ae2 ce2 Al nl cl bx bm xl ms gi ni im2 m s19 s20 wx) (fun _ s20 _ => 32 - (intOf s20).toNat)
      case atStart => exact HC0.out
      case round =>
        as_aux_lemma =>
        obtain ⟨at_, k, A', c', hat, hak, hk31, rfl, rfl, hrd, hrb, hcc, hne⟩ := hrel
        have HAT := Lib.hid (And.intro hat (And.intro hak hk31))
        have HRD := Lib.hid hrd
        have HRB := Lib.hid hrb
        have HCC := Lib.hid (And.intro hcc hne)
        clear hat hak hk31 hrd hrb hcc hne HC0 HRF
        by_cases hlt : at_ < ni
        · have HLT := Lib.hid hlt
          obtain ⟨r, hr⟩ : ∃ r, r = ni - at_ := ⟨_, rfl⟩
          have HRR : Hid (r = ni - at_ ∧ 0 < r) := Lib.hid ⟨hr, by omega⟩
          have q1 : (at_ : Int) < (ni : Int) := by omega
          have q2 : (ni : Int) - (at_ : Int) = (r : Int) := by omega
          have q3 : (r : Int) ≤ 512 := by have := HNI.out; omega
          clear hr hlt
          go_upto_region 28 with (fail)
          clear q2 q3
          go_cut [135] (fun s135 wx => ∃ tk : Bool, s135 = .bool tk ∧ Hid (tk = true → k < nb ∧ k < 30 ∧ ∃ (ga oa y : Nat), A1 = some ⟨ga, oa, none⟩ ∧ y < r ∧ y < 256 ∧ wr.cell? ⟨ga, oa + k, none⟩ = some (.int .u8 (y : Int))) ∧ wr = wx)
          case first =>
            as_aux_lemma =>
            have k1 : wr.cell? ⟨bx, 1, none⟩ = some (.slice A1 nb c1) := HRD.out.xb.cell HXL.out.2.2.1
            by_cases hkb : k < nb
            · have hc : ∃ (ga oa y : Nat), A1 = some ⟨ga, oa, none⟩ ∧ wr.cell? ⟨ga, oa + k, none⟩ = some (.int .u8 (y : Int)) ∧ y < 256 := by
                have hxe := HXE.out
                have h := (HXK.out.at HRD.out.core.bel).2.1
                have hk : k < x.chunks.length := by rw [← hxe.2.1]; exact hkb
                obtain ⟨ga, oa, hA, _, hcell⟩ := h (by rintro h0; rw [h0] at hk; simp at hk)
                exact ⟨ga, oa, _, by rw [hxe.2.2.2.2.1]; exact hA, hcell k hk, UInt8.toNat_lt _⟩
              obtain ⟨ga, oa, y, rfl, hcell, hy8⟩ := hc
              have wy : (y : Int) < 256 := by omega
              have HY8 := Lib.hid hy8
              clear hy8
              have HCELL := Lib.hid hcell
              have hkb' : (k : Int) < (nb : Int) := by omega
              have HKB := Lib.hid hkb
              clear hkb
              by_cases hk30 : k < 30
              · have hk30' : (k : Int) < 30 := by omega
                have HK30 := Lib.hid hk30
                clear hk30
                by_cases hyr : y < r
                · have hyr' : (y : Int) < (r : Int) := by omega
                  have HYR := Lib.hid hyr
                  clear hyr
                  go_wp2_with fail
                  go_meet
                  case rel => exact ⟨true, rfl, Lib.hid (fun _ => ⟨HKB.out, HK30.out, ga, oa, y, rfl, HYR.out, HY8.out, HCELL.out⟩), rfl⟩
                · have hyr' : ¬ (y : Int) < (r : Int) := by omega
                  clear hyr
                  go_wp2_with fail
                  go_meet
                  case rel => exact ⟨false, rfl, Lib.hid (fun h => by cases h), rfl⟩
              · have hk30' : ¬ (k : Int) < 30 := by omega
                clear hk30
                go_wp2_with fail
                go_meet
                case rel => exact ⟨false, rfl, Lib.hid (fun h => by cases h), rfl⟩
            · have hkb' : ¬ (k : Int) < (nb : Int) := by omega
              clear hkb
              go_wp2_with fail
              go_meet
              case rel => exact ⟨false, rfl, Lib.hid (fun h => by cases h), rfl⟩
          case rest =>
          as_aux_lemma =>
          obtain ⟨tk, rfl, HTK, rfl⟩ := hcut
          go_upto_if 135 with (fail)
          go_cut [21] (fun s21 wx => ∃ q : Nat, s21 = .int .i64 (q : Int) ∧ Hid (q ≤ r ∧ (k < 30 ∨ q = r)) ∧ wr = wx)
          case first =>
            as_aux_lemma =>
            cases tk with
            | false =>
              go_wp2_with fail
              go_meet
              case rel => exact ⟨r, rfl, Lib.hid ⟨Nat.le_refl _, .inr rfl⟩, rfl⟩
            | true =>
            obtain ⟨hkb, hk30, ga, oa, y, rfl, hyr, hy8, hcell⟩ := HTK.out rfl
            have wy : (y : Int) < 256 := by omega
            have k1 : wr.cell? ⟨bx, 1, none⟩ = some (.slice (some ⟨ga, oa, none⟩) nb c1) := HRD.out.xb.cell HXL.out.2.2.1
            have hkb' : (k : Int) < (nb : Int) := by omega
            have HYR := Lib.hid hyr
            have HK30 := Lib.hid hk30
            clear hyr hk30 hkb hy8
            go_wp2_with fail
            go_meet
            case rel => exact ⟨y, rfl, Lib.hid ⟨Nat.le_of_lt HYR.out, .inl HK30.out⟩, rfl⟩
          case rest =>
          as_aux_lemma =>
          obtain ⟨q, rfl, HQ, rfl⟩ := hcut
          clear HTK
          obtain ⟨e, he⟩ : ∃ e, e = at_ + q := ⟨_, rfl⟩
          have HEE : Hid (e = at_ + q ∧ e ≤ ni ∧ at_ ≤ e ∧ at_ ≤ ni ∧ ni ≤ 512) := Lib.hid (by have h1 := HQ.out; have h2 := HRR.out; have h3 := HLT.out; have h4 := HNI.out; omega)
          have q4 : (at_ : Int) + (q : Int) = (e : Int) := by omega
          have q5 : (e : Int) ≤ 512 := by have h1 := HEE.out; omega
          have HIB : Hid (RB wr wr.heap.size (some ⟨gi, 0, none⟩) im2) := Lib.hid HRD.out.ib
          have HLC : Hid (im2.length ≤ ci) := Lib.hid (by rw [HLI.out]; exact HGI.out.2.2)
          clear he
          go_wp2_with (((with_reducible show wpList _ _ _ (Oper.mk _ (Op.slice 36 _ _ _ _) _ _ _ _ :: _) _ _); refine wpList_cut _ (Or.inl rfl) _ _ _ rfl wr.heap.size (some ⟨gi, 0, none⟩) ni ci im2 HLI.out.symm rfl HIB.out HLC.out at_ e (Or.inr rfl) (Or.inr rfl) HEE.out.2.2.1 HEE.out.2.1 ?_))
          intro A6 m6 L6 hL6 hm6 hm6' hr6
          rw [← hm6']
          obtain ⟨c6, hc6⟩ : ∃ c6, c6 = ci - at_ := ⟨_, rfl⟩
          rw [← hc6]
          have HTL : Hid ((im2.take e).length = e) := Lib.hid (by rw [List.length_take, HLI.out]; have := HEE.out; omega)
          have HCH : Hid (Calls Tryz.prog 11 #[.pointer (some ⟨bl2, 0, none⟩), .int .i64 0, .int .i64 (at_ : Int), .slice A6 m6 c6] wr (RetLc wr B2 bl2 br2 bg2 bs2 bq2 Ae2 ce2 bd (loadF shaF okPF (secAt s)) m (logAt s).length (im2.take e))) := Lib.hid (by
            have hE := HEE.out
            have h := lchunk_calls wr m ni HM.out.2.2.1 HM.out.2.1 (by rw [HM.out.1]) A' A6 at_ c' m6 c6 (im2.take at_) L6 (by rw [List.length_take, HLI.out]; omega) hm6' HRB.out hr6 (by rw [hm6.out]; omega) (by omega) HRD.out.core.ld
            have he : im2.take at_ ++ L6 = im2.take e := by
              rw [hL6.out]
              have h2 : (im2.take e).take at_ = im2.take at_ := by rw [List.take_take, Nat.min_eq_left hE.2.2.1]
              rw [← h2, List.take_append_drop]
            rw [he] at h
            exact h)
          have hk30 : (k : Int) ≤ 30 := by have h1 := HAT.out.2.1 HLT.out; omega
          clear hL6 hm6 hm6' hr6 hc6 HIB HLC
          go_wp2_with fail
          go_at_call 11
          with_reducible refine HCH.out.mono ?_
          rintro ew wy ⟨g9, rfl, hldy, hgy, hrby, hgry, _⟩
          have HNX : Hid (ChR w0 bd bp i s (Dk.idle s) O2 B2 bl2 br2 bg2 bs2 bq2 Ae2 ce2 Al nl cl bx bm xl ms gi ni im2 m (.int .i64 (e : Int)) (.int .i64 ((k : Int) + 1)) wy) := Lib.hid (by
            have hE := HEE.out
            have hQ := HQ.out
            have hR := HRR.out
            have hA := HAT.out
            have hT := HTL.out
            rw [hT] at hldy
            refine ⟨e, k + 1, some ⟨g9, 0, none⟩, e, hE.2.1, fun h => by omega, by have := hA.2.1 HLT.out; omega, rfl, rfl, HRD.out.reg hgry hldy, hrby, Nat.le_refl _, fun g hg => ?_⟩
            injection hg with hg
            have hg : g9 = g := hg
            have h1 := HRD.out.core.ld.lt
            have h2 := HRD.out.core.ld.old.1
            exact ⟨by omega, by omega⟩)
          clear hldy hgy hrby hgry HCH HRD HRB
          go_wp2_with fail
          go_roundw
          case rel => exact HNX.out
          case measure => simp [intOf]; omega
        · have hge : ¬ (at_ : Int) < (ni : Int) := by omega
          have HAE : Hid (at_ = ni ∧ im2.take at_ = im2) := Lib.hid (by
            have h1 := HAT.out.1
            have h2 : at_ = ni := by omega
            exact ⟨h2, List.take_of_length_le (by rw [HLI.out, h2]; exact Nat.le_refl _)⟩)
          have k3 : wr.cell? ⟨bx, 3, none⟩ = some (.int .i64 cu) := HRD.out.xb.cell HXL.out.2.2.2.2.1
          have k4 : wr.cell? ⟨bx, 4, none⟩ = some (.slice A4 nk c4) := HRD.out.xb.cell HXL.out.2.2.2.2.2.1
          clear hlt
          go_upto_if 157 with (fail)
          go_cut [7] (fun s7 wx => s7 = .pointer (some ⟨bd, 0, none⟩) ∧ ∃ (dd : Dk) (OO : Nat → Prop), Hid (RdI w0 wx bd bp i s dd OO B2 bl2 br2 bg2 bs2 bq2 Ae2 ce2 true (scells m A' at_ c') Al nl cl bx bm xl ms (some ⟨gi, 0, none⟩) im2) ∧ Hid (RB wx wx.heap.size A' im2))
          case first =>
            as_aux_lemma =>
            have HRB2 : Hid (RB wr wr.heap.size A' im2) := Lib.hid (by have h := HRB.out; rw [HAE.out.2] at h; exact h)
            by_cases hcu : 0 ≤ cu
            · have HAR : Hid (Calls Tryz.prog 12 #[.pointer (some ⟨bd, 0, none⟩), .int .i64 cu, .slice A4 nk c4] wr (RetDN wr bd O2 ((Dk.idle s).arm cu x.keep) (.tuple #[]))) := Lib.hid (by
                obtain ⟨_, _, h3, _, _, h6, _, _, h9, _, h11⟩ := HXE.out
                have hrk := (HXK.out.at HRD.out.core.bel).2.2
                rw [h3, h6, h9, h11]
                refine arm_calls wr bd O2 (Dk.idle s) x.cut x.A4 x.c4 x.keep HRD.out.core.dk HXK.out.ci hrk (fun hne g hg e => ?_) HXK.out.ck HXK.out.lk
                obtain ⟨g', o', hA', hg', _⟩ := HXK.out.rk hne
                rw [hA'] at hg
                injection hg with hg
                have hg : g' = g := hg
                have := HRD.out.core.oB g e
                omega)
              have HAI : Hid ((Dk.idle s).arm cu x.keep = { Dk.idle s with armed := true, left := cu.toNat, surv := x.keep }) := Lib.hid (arm_idle s cu hcu x.keep)
              go_wp2_with fail
              go_at_call 12
              with_reducible refine HAR.out.mono ?_
              rintro ez wz ⟨rfl, OO, hdz, huz⟩
              have HRZ : Hid (RdI w0 wz bd bp i s ((Dk.idle s).arm cu x.keep) OO B2 bl2 br2 bg2 bs2 bq2 Ae2 ce2 true (scells m A' at_ c') Al nl cl bx bm xl ms (some ⟨gi, 0, none⟩) im2) := Lib.hid (HRD.out.arm HOL.out huz hdz (by rw [HAI.out]; exact ⟨rfl, rfl, rfl, HXK.out.lk⟩))
              have HRBZ : Hid (RB wz wz.heap.size A' im2) := Lib.hid (fun hne => by
                obtain ⟨g', o', hA', hg', _⟩ := HRB2.out hne
                refine rb_keep HRB2.out (fun g hg => ?_) huz.size hne
                have hB := (HCC.out.2 g hg).2
                rw [hA'] at hg
                injection hg with hg
                have hg : g' = g := hg
                exact huz.keep g (by rw [← hg]; exact hg') (fun e => by have := HOL.out g e; omega))
              clear hdz huz HAR
              go_wp2_with fail
              go_meet
              case rel => exact ⟨rfl, _, OO, HRZ, HRBZ⟩
            · go_wp2_with fail
              go_meet
              case rel => exact ⟨rfl, _, O2, HRD, HRB2⟩
          case rest =>
          as_aux_lemma =>
          obtain ⟨rfl, dd, OO, HRZ, HRBZ⟩ := hcut
          have HINV := Lib.hid HRZ.out.core.inv
          have HLF := Lib.hid (load_facts shaF okPF HINV.out)
          clear HRD HRB k3 k4 hge
          obtain ⟨l0, hl0⟩ : ∃ l : Ld, l = openF shaF okPF s := ⟨_, rfl⟩
          have HIS : Hid (Calls Tryz.prog 13 #[.pointer (some ⟨bl2, 0, none⟩), .int .i64 0] wc (RetIs wc bd OO bl2 br2 bg2 Ae2 l0 dd m im2)) := Lib.hid (by
            have hc := HRZ.out.core
            have h5 := HG.out.size
            have hI := HI2.out
            have hF := HLF.out
            rw [hl0]
            exact linstall_calls wc (HG.out.below' hc.bel) m A' at_ c' hc.ld (Nat.le_trans h5 hc.bB) OO dd hc.dk hc.ds.2.2.1 hc.ds.2.2.2 (fun k hk => Nat.le_trans h5 (hc.oB k hk)) hc.no (by omega) (by omega) hF.2.1 HM.out.2.2.1 HM.out.2.2.2.1 (by rw [HM.out.2.2.2.2.1, HM.out.2.2.2.2.2]; omega) im2 (by rw [HAE.out.1, HLI.out]) HRBZ.out (fun g hg => (HCC.out.2 g hg).1) HCC.out.1 (by rw [HAE.out.1]; exact HNI.out.2.2.1) (logAt s) rfl)
          go_wp2_with fail
          go_at_call 13
          with_reducible refine HIS.out.mono ?_
          rintro ea wa2 ⟨cd, hcd, rfl, O3, hd3, hu3⟩
          obtain ⟨d3, hd3e⟩ : ∃ x, x = (installF shaF okPF l0 dd m im2 cd).2.1 := ⟨_, rfl⟩
          obtain ⟨rc, hrc⟩ : ∃ x, x = (installF shaF okPF l0 dd m im2 cd).2.2 := ⟨_, rfl⟩
          have HCAME : Hid (Came shaF okPF s d3.secs i m im2 rc) := Lib.hid (by
            have hc := HRZ.out.core
            have h := came shaF okPF (code := cd) HINV.out HI2.out.2 hc.ds.1 hc.ds.2.1 hc.ds.2.2.1 HM.out.2.2.2.1 (by rw [HM.out.2.2.2.2.1, HM.out.2.2.2.2.2]) HM.out.2.2.1 (b := im2) (fun _ => by omega)
            rw [← hl0, ← hd3e, ← hrc] at h
            exact h)
          rw [← hrc]
          rw [← hd3e] at hd3
          have HAF : Hid (AfI w0 wa2 bd bp d3 O3 Al nl cl (loadF shaF okPF (secAt s)).img bx bm xl ms (some ⟨gi, 0, none⟩) im2) := Lib.hid (HRZ.out.inst hu3 hd3)
          have HA1 : Hid (Calls Tryz.prog 12 #[.pointer (some ⟨bd, 0, none⟩), .int .i64 (-1), .slice none 0 0] wa2 (RetDN wa2 bd O3 (d3.arm (-1) []) (.tuple #[]))) := Lib.hid (arm_calls wa2 bd O3 d3 (-1) none 0 [] hd3 (by omega) (fun h => absurd rfl h) (fun h => absurd rfl h) (fun _ => rfl) (Nat.zero_le _))
          clear hd3 hu3 hd3e hrc hcd hl0 HIS HRZ HRBZ
          go_wp2_with fail
          go_at_call 12
          with_reducible refine HA1.out.mono ?_
          rintro ea wa3 ⟨rfl, O4, hd4, hu4⟩
          have HAF2 := Lib.hid (HAF.out.upd hu4 hd4)
          have HA2 := Lib.hid (power_calls wa3 bd O4 (d3.arm (-1) []) hd4)
          clear hd4 hu4 HA1 HAF
          go_wp2_with fail
          go_at_call 14
          with_reducible refine HA2.out.mono ?_
          rintro ea wa4 ⟨rfl, hd5, hu5⟩
          have HAF3 := Lib.hid (HAF2.out.upd hu5 hd5)
          obtain ⟨s2, hs2⟩ : ∃ x, x = d3.secs := ⟨_, rfl⟩
          rw [after_idle, ← hs2] at HAF3
          rw [← hs2] at HCAME
          have HLA3 : Hid (∀ g, Al.map (·.block) = some g → g < wa4.heap.size) := Lib.hid HAF3.out.la.lt
          have HLO := Lib.hid (lopen_calls wa4 (HG.out.below' HAF3.out.bel) bp bd O4 (Dk.idle s2) HAF3.out.pt HAF3.out.dk rfl rfl)
          clear hd5 hu5 HA2 HAF2 hs2
          go_wp2_with fail
          go_at_call 6
          with_reducible refine HLO.out.mono ?_
          rintro ea wa5 ⟨bl3, br3, bg3, bs3, bq3, Ae3, ce3, rfl, hld3, hb5⟩
          have HLN : Hid (LdN wa5 bd O4 s2 bp wa4.heap.size bl3 br3 bg3 bs3 bq3 Ae3 ce3) := Lib.hid ⟨hld3, fun k hk => HAF3.out.dk.own k hk, Blk.lt HAF3.out.pt⟩
          have HAF4 : Hid (AfI w0 wa5 bd bp (Dk.idle s2) O4 Al nl cl (loadF shaF okPF (secAt s)).img bx bm xl ms (some ⟨gi, 0, none⟩) im2 ∧ w0.heap.size ≤ wa4.heap.size) := Lib.hid ⟨HAF3.out.below hb5, HAF3.out.bel.size⟩
          clear hld3 hb5 HLO HAF3
          --END[
          have HLA4 : Hid (∀ g, Al.map (·.block) = some g → g < wa4.heap.size) := HLA3
          obtain ⟨img1, himg1⟩ : ∃ x, x = (loadF shaF okPF (secAt s)).img := ⟨_, rfl⟩
          obtain ⟨img2, himg2⟩ : ∃ x, x = (loadF shaF okPF (secAt s2)).img := ⟨_, rfl⟩
          rw [← himg1] at HAF4
          have HFR : ∃ fr : Bool, Hid ((fr = true → img2 = some (im2, i + 1) ∧ imgOk shaF okPF m im2 = true) ∧ (fr = false → img2 = img1 ∧ rc ≠ 0 ∧ ∀ b v, img1 = some (b, v) → v ≤ i)) := by
            rcases HCAME.out.img with h | h
            · exact ⟨true, Lib.hid ⟨fun _ => ⟨by rw [himg2]; exact h.1, h.2⟩, fun e => by cases e⟩⟩
            · exact ⟨false, Lib.hid ⟨fun e => (by cases e), fun _ => ⟨by rw [himg2, himg1]; exact h.1, h.2, fun b v e => HINV.out.ver b v (by rw [← himg1]; exact e)⟩⟩⟩
          obtain ⟨fr, HFR⟩ := HFR
          have HRC : Hid (rc = 0 → imgOk shaF okPF m im2 = true) := Lib.hid fun h0 => by
            rcases HCAME.out.img with h | h
            · exact h.2
            · exact absurd h0 h.2
          have HPI : Hid (∀ b v, img2 = some (b, v) → okPF b = true ∧ 4 ≤ b.length ∧ b.length ≤ 512) := Lib.hid fun b v e => load_img shaF okPF (by rw [← himg2]; exact e)
          have HIN2 : Hid (Inv shaF okPF s2 (i + 1)) := Lib.hid HCAME.out.inv
          have HIG2 := Lib.hid himg2
          clear himg1 himg2 HCAME HINV HLF
          go_upto_region 39 with (fail)
          go_cut [191] (fun s191 wx => s191 = .bool false ∧ Below wa5.heap.size wa5 wx)
          case first =>
            as_aux_lemma =>
            by_cases hr0 : rc = 0
            · have QR : Hid (((rc : Int) == 0) = true) := Lib.hid (by rw [hr0]; rfl)
              have HOK : Hid (imgOk shaF okPF m im2 = true) := Lib.hid (HRC.out hr0)
              clear hr0
              cases cor with
              | false =>
                go_wp2_with fail
                refine region_monos (fun ix9 => ([.is (.int .i64 0), .is (.bool false), .is (.bool false), .is (.int .i64 (rc : Int)), .is (.bool true), .is (.bool true), .is (.bool false), .is (.bool false), .is (.bool false), .is (undef), .is (undef), .is (undef), .is (undef), .is (undef), .is (undef), .is (.bool false), .is (.bool false)] : List VD).getD ix9 (.is undef)) [some 175, some 176, some 177, some 178, some 179, some 180, some 181, some 182, some 183, some 184, some 185, some 186, some 187, some 188, some 189, some 190, some 191] (by kernel_rfl) (by kernel_rfl) (by kernel_rfl) rfl (fun ii hii => ?_) ?_
                · match ii, hii with
                  | 0, _ => exact mstep_first rfl (mwant_none rfl) 24 (Or.inl rfl) (by kernel_rfl) (fun _ _ => rfl)
                  | 1, _ => exact mstep_pure rfl (mwant_none rfl) (fun aa ww cc => ⟨.bool false, by have e0 : aa.tmps.getD 175 undef = .int .i64 0 := cc.slot 0 175 (by kernel_rfl) rfl; simp only [execOp, Act.eval]; go_simp, rfl⟩)
                  | 2, _ => exact mstep_copy rfl (mwant_none rfl) 176 (Or.inl rfl) 1 (by kernel_rfl) rfl rfl
                  | 3, _ => exact mstep_first rfl (mwant 2 false 177 rfl (by kernel_rfl) rfl rfl (by kernel_rfl)) 22 (Or.inl rfl) (by kernel_rfl) (fun _ _ => rfl)
                  | 4, _ => exact mstep_pure rfl (mwant 2 false 177 rfl (by kernel_rfl) rfl rfl (by kernel_rfl)) (fun aa ww cc => ⟨.bool true, by have e0 : aa.tmps.getD 178 undef = .int .i64 (rc : Int) := cc.slot 3 178 (by kernel_rfl) rfl; have q := QR.out; simp only [execOp, Act.eval]; go_simp, rfl⟩)
                  | 5, _ => exact mstep_copy rfl (mwant 2 false 177 rfl (by kernel_rfl) rfl rfl (by kernel_rfl)) 179 (Or.inl rfl) 4 (by kernel_rfl) rfl rfl
                  | 6, _ => exact mstep_first rfl (mwant 5 true 180 rfl (by kernel_rfl) rfl rfl (by kernel_rfl)) 18 (Or.inl rfl) (by kernel_rfl) (fun _ _ => rfl)
                  | 7, _ => exact mstep_pure rfl (mwant 2 false 177 rfl (by kernel_rfl) rfl rfl (by kernel_rfl)) (fun aa ww cc => ⟨.bool false, by have e0 : aa.tmps.getD 180 undef = .bool true := cc.slot 5 180 (by kernel_rfl) rfl; have e1 : aa.tmps.getD 181 undef = .bool false := cc.slot 6 181 (by kernel_rfl) rfl; simp only [execOp, Act.eval]; go_simp, rfl⟩)
                  | 8, _ => exact mstep_copy rfl (mwant 2 false 177 rfl (by kernel_rfl) rfl rfl (by kernel_rfl)) 182 (Or.inl rfl) 7 (by kernel_rfl) rfl rfl
                  | 9, _ => exact mstep_unwanted rfl 8 true 183 rfl (by kernel_rfl) rfl (Or.inl rfl) (by kernel_rfl) rfl
                  | 10, _ => exact mstep_unwanted rfl 8 true 183 rfl (by kernel_rfl) rfl (Or.inl rfl) (by kernel_rfl) rfl
                  | 11, _ => exact mstep_unwanted rfl 8 true 183 rfl (by kernel_rfl) rfl (Or.inl rfl) (by kernel_rfl) rfl
                  | 12, _ => exact mstep_unwanted rfl 8 true 183 rfl (by kernel_rfl) rfl (Or.inl rfl) (by kernel_rfl) rfl
                  | 13, _ => exact mstep_unwanted rfl 8 true 183 rfl (by kernel_rfl) rfl (Or.inl rfl) (by kernel_rfl) rfl
                  | 14, _ => exact mstep_unwanted rfl 8 true 183 rfl (by kernel_rfl) rfl (Or.inl rfl) (by kernel_rfl) rfl
                  | 15, _ => exact mstep_pure rfl (mwant 2 false 177 rfl (by kernel_rfl) rfl rfl (by kernel_rfl)) (fun aa ww cc => ⟨.bool false, by have e0 : aa.tmps.getD 183 undef = .bool false := cc.slot 8 183 (by kernel_rfl) rfl; simp only [execOp, Act.eval]; go_simp, rfl⟩)
                  | 16, _ => exact mstep_pure rfl (mwant_none rfl) (fun aa ww cc => ⟨.bool false, by have e0 : aa.tmps.getD 177 undef = .bool false := cc.slot 2 177 (by kernel_rfl) rfl; have e1 : aa.tmps.getD 190 undef = .bool false := cc.slot 15 190 (by kernel_rfl) rfl; simp only [execOp, Act.eval]; go_simp, rfl⟩)
                  | n + 17, h => exact absurd h (by show ¬ (n + 17 < 17); omega)
                · intro VV w5 hlen hb5 hok
                  match VV, hlen with
                  | [v0, v1, v2, v3, v4, v5, v6, v7, v8, v9, v10, v11, v12, v13, v14, v15, v16], _ =>
                    obtain rfl : v0 = .int .i64 0 := hok 0 175 rfl
                    obtain rfl : v1 = .bool false := hok 1 176 rfl
                    obtain rfl : v2 = .bool false := hok 2 177 rfl
                    obtain rfl : v3 = .int .i64 (rc : Int) := hok 3 178 rfl
                    obtain rfl : v4 = .bool true := hok 4 179 rfl
                    obtain rfl : v5 = .bool true := hok 5 180 rfl
                    obtain rfl : v6 = .bool false := hok 6 181 rfl
                    obtain rfl : v7 = .bool false := hok 7 182 rfl
                    obtain rfl : v8 = .bool false := hok 8 183 rfl
                    obtain rfl : v9 = undef := hok 9 184 rfl
                    obtain rfl : v10 = undef := hok 10 185 rfl
                    obtain rfl : v11 = undef := hok 11 186 rfl
                    obtain rfl : v12 = undef := hok 12 187 rfl
                    obtain rfl : v13 = undef := hok 13 188 rfl
                    obtain rfl : v14 = undef := hok 14 189 rfl
                    obtain rfl : v15 = .bool false := hok 15 190 rfl
                    obtain rfl : v16 = .bool false := hok 16 191 rfl
                    have HB9 : Hid (Below wa5.heap.size wa5 w5) := Lib.hid ⟨hb5.os, hb5.tape, hb5.output, hb5.size, hb5.block⟩
                    clear hb5 hok
                    simp only [List.zip_cons_cons, List.zip_nil_right, putsL]
                    go_simp
                    go_wp2_with fail
                    go_meet
                    case rel => exact ⟨rfl, HB9.out⟩
              | true =>
              obtain ⟨ul, hul⟩ : ∃ l, l = m.sum.map bv := ⟨_, rfl⟩
              obtain ⟨mz, hmz⟩ : ∃ l, l = mcells ⟨0, 0, (ni : Int), shaF im2⟩ := ⟨_, rfl⟩
              have HSE : Hid (shaF im2 = m.sum) := Lib.hid (imgOk_parts shaF okPF HOK.out).2.2.1
              have H32 : Hid (m.sum.length = 32) := Lib.hid HM.out.2.2.1
              have FMZ : Hid (∀ w, (Instr.field 47 (.agg mz.toArray) 3).run Tryz.prog w = .ok (.agg ul.toArray) w) := Lib.hid fun w => by rw [hmz, hul, ← HSE.out]; exact field_man w ⟨0, 0, (ni : Int), shaF im2⟩ (sha_len _)
              have LU : Hid (∀ w', Below wa5.drew.heap.size wa5.drew w' → (Instr.loadAt 45 (.pointer (some ⟨bm, 3, none⟩))).run Tryz.prog w' = .ok (.agg ul.toArray) w') := Lib.hid fun w' hb => run_loadAtM sB32 w' bm 3 ul (Blk.range (HAF4.out.1.mb.keep (hb.block bm HAF4.out.1.mb.lt)) 3 _ ⟨[.int .i64 m.part, .int .u32 (m.ver : Int), .int .i64 m.size], [], by rw [HMS.out.1, hul]; simp [mcells], rfl⟩) (by rw [hul, List.length_map, H32.out])
              have NE : Hid (∀ w, (do eqGuard .neq 45 (.tmp 185) (.tmp 188) (.agg ul.toArray) (.agg ul.toArray); binOp .neq 45 (.agg ul.toArray) (.agg ul.toArray) : Sem Value).run Tryz.prog w = .ok (.bool false) w) := Lib.hid fun w => by
                have h := run_neq32 w (.tmp 185) (.tmp 188) m.sum m.sum H32.out H32.out
                rw [← hul] at h
                simpa using h
              have OFC : Hid (∀ w', Below wa5.drew.heap.size wa5.drew w' → Calls Tryz.prog 9 #[.int .i64 0, .int .u32 0, .slice (some ⟨gi, 0, none⟩) ni ci] w' fun e w'' => ∃ v, e = .returned v ∧ (VD.is (.agg mz.toArray)).ok v w'' ∧ Below w'.heap.size w' w'') := Lib.hid fun w' hb => by
                have hbz : Below wa5.heap.size wa5 w' := ⟨hb.os, hb.tape, hb.output, hb.size, hb.block⟩
                have hAF := HAF4.out.1.below hbz
                have h := iof_calls w' (HG.out.below' hAF.bel) 0 (some ⟨gi, 0, none⟩) ni ci im2 HLI.out.symm hAF.ib HGI.out.2.2 (by have := HNI.out; omega)
                refine Calls.mono h ?_
                rintro e w'' ⟨rfl, hb2⟩
                exact ⟨_, rfl, by rw [hmz]; rfl, hb2⟩
              clear hul hmz HSE
              go_wp2_with fail
              refine region_monos (fun ix9 => ([.is (.int .i64 0), .is (.bool false), .is (.bool false), .is (.int .i64 (rc : Int)), .is (.bool true), .is (.bool true), .is (.bool true), .is (.bool true), .is (.bool true), .is (.pointer (some ⟨bm, 3, none⟩)), .is (.agg ul.toArray), .is (.slice (some ⟨gi, 0, none⟩) ni ci), .is (.agg mz.toArray), .is (.agg ul.toArray), .is (.bool false), .is (.bool false), .is (.bool false)] : List VD).getD ix9 (.is undef)) [some 175, some 176, some 177, some 178, some 179, some 180, some 181, some 182, some 183, some 184, some 185, some 186, some 187, some 188, some 189, some 190, some 191] (by kernel_rfl) (by kernel_rfl) (by kernel_rfl) rfl (fun ii hii => ?_) ?_
              · match ii, hii with
                | 0, _ => exact mstep_first rfl (mwant_none rfl) 24 (Or.inl rfl) (by kernel_rfl) (fun _ _ => rfl)
                | 1, _ => exact mstep_pure rfl (mwant_none rfl) (fun aa ww cc => ⟨.bool false, by have e0 : aa.tmps.getD 175 undef = .int .i64 0 := cc.slot 0 175 (by kernel_rfl) rfl; simp only [execOp, Act.eval]; go_simp, rfl⟩)
                | 2, _ => exact mstep_copy rfl (mwant_none rfl) 176 (Or.inl rfl) 1 (by kernel_rfl) rfl rfl
                | 3, _ => exact mstep_first rfl (mwant 2 false 177 rfl (by kernel_rfl) rfl rfl (by kernel_rfl)) 22 (Or.inl rfl) (by kernel_rfl) (fun _ _ => rfl)
                | 4, _ => exact mstep_pure rfl (mwant 2 false 177 rfl (by kernel_rfl) rfl rfl (by kernel_rfl)) (fun aa ww cc => ⟨.bool true, by have e0 : aa.tmps.getD 178 undef = .int .i64 (rc : Int) := cc.slot 3 178 (by kernel_rfl) rfl; have q := QR.out; simp only [execOp, Act.eval]; go_simp, rfl⟩)
                | 5, _ => exact mstep_copy rfl (mwant 2 false 177 rfl (by kernel_rfl) rfl rfl (by kernel_rfl)) 179 (Or.inl rfl) 4 (by kernel_rfl) rfl rfl
                | 6, _ => exact mstep_first rfl (mwant 5 true 180 rfl (by kernel_rfl) rfl rfl (by kernel_rfl)) 18 (Or.inl rfl) (by kernel_rfl) (fun _ _ => rfl)
                | 7, _ => exact mstep_pure rfl (mwant 2 false 177 rfl (by kernel_rfl) rfl rfl (by kernel_rfl)) (fun aa ww cc => ⟨.bool true, by have e0 : aa.tmps.getD 180 undef = .bool true := cc.slot 5 180 (by kernel_rfl) rfl; have e1 : aa.tmps.getD 181 undef = .bool true := cc.slot 6 181 (by kernel_rfl) rfl; simp only [execOp, Act.eval]; go_simp, rfl⟩)
                | 8, _ => exact mstep_copy rfl (mwant 2 false 177 rfl (by kernel_rfl) rfl rfl (by kernel_rfl)) 182 (Or.inl rfl) 7 (by kernel_rfl) rfl rfl
                | 9, _ => exact mstep_pure rfl (mwant 8 true 183 rfl (by kernel_rfl) rfl rfl (by kernel_rfl)) (fun aa ww cc => ⟨.pointer (some ⟨bm, 3, none⟩), by have e0 : aa.tmps.getD 17 undef = .pointer (some ⟨bm, 0, none⟩) := (cc.orig 17 (by kernel_rfl)).trans rfl; simp only [execOp, Act.eval]; go_simp, rfl⟩)
                | 10, _ => exact mstep_loadO rfl (mwant 8 true 183 rfl (by kernel_rfl) rfl rfl (by kernel_rfl)) 184 _ rfl 9 (by kernel_rfl) rfl _ _ rfl rfl (fun w hb => LU.out w hb)
                | 11, _ => exact mstep_first rfl (mwant 8 true 183 rfl (by kernel_rfl) rfl rfl (by kernel_rfl)) 16 (Or.inl rfl) (by kernel_rfl) (fun _ _ => rfl)
                | 12, _ => exact mstep_call rfl (mwant 8 true 183 rfl (by kernel_rfl) rfl rfl (by kernel_rfl)) _ _ _ rfl (enters_of Tryz.func9 (by kernel_rfl) rfl) (fun aa ww cc => by have e0 : aa.tmps.getD 186 undef = .slice (some ⟨gi, 0, none⟩) ni ci := cc.slot 11 186 (by kernel_rfl) rfl; simp only [List.map_toArray, List.map_cons, List.map_nil, Act.eval, e0]; exact OFC.out ww cc.below)
                | 13, _ => exact mstep_fieldV rfl (mwant 8 true 183 rfl (by kernel_rfl) rfl rfl (by kernel_rfl)) 187 47 3 rfl 12 (by kernel_rfl) rfl _ _ rfl rfl (fun w => FMZ.out w)
                | 14, _ => exact mstep_bin rfl (mwant 8 true 183 rfl (by kernel_rfl) rfl rfl (by kernel_rfl)) .neq 45 _ 185 188 rfl 10 13 (by kernel_rfl) (by kernel_rfl) rfl rfl _ _ _ rfl rfl rfl (fun w => NE.out w)
                | 15, _ => exact mstep_pure rfl (mwant 2 false 177 rfl (by kernel_rfl) rfl rfl (by kernel_rfl)) (fun aa ww cc => ⟨.bool false, by have e0 : aa.tmps.getD 183 undef = .bool true := cc.slot 8 183 (by kernel_rfl) rfl; have e1 : aa.tmps.getD 189 undef = .bool false := cc.slot 14 189 (by kernel_rfl) rfl; simp only [execOp, Act.eval]; go_simp, rfl⟩)
                | 16, _ => exact mstep_pure rfl (mwant_none rfl) (fun aa ww cc => ⟨.bool false, by have e0 : aa.tmps.getD 177 undef = .bool false := cc.slot 2 177 (by kernel_rfl) rfl; have e1 : aa.tmps.getD 190 undef = .bool false := cc.slot 15 190 (by kernel_rfl) rfl; simp only [execOp, Act.eval]; go_simp, rfl⟩)
                | n + 17, h => exact absurd h (by show ¬ (n + 17 < 17); omega)
              · intro VV w5 hlen hb5 hok
                match VV, hlen with
                | [v0, v1, v2, v3, v4, v5, v6, v7, v8, v9, v10, v11, v12, v13, v14, v15, v16], _ =>
                  obtain rfl : v0 = .int .i64 0 := hok 0 175 rfl
                  obtain rfl : v1 = .bool false := hok 1 176 rfl
                  obtain rfl : v2 = .bool false := hok 2 177 rfl
                  obtain rfl : v3 = .int .i64 (rc : Int) := hok 3 178 rfl
                  obtain rfl : v4 = .bool true := hok 4 179 rfl
                  obtain rfl : v5 = .bool true := hok 5 180 rfl
                  obtain rfl : v6 = .bool true := hok 6 181 rfl
                  obtain rfl : v7 = .bool true := hok 7 182 rfl
                  obtain rfl : v8 = .bool true := hok 8 183 rfl
                  obtain rfl : v9 = .pointer (some ⟨bm, 3, none⟩) := hok 9 184 rfl
                  obtain rfl : v10 = .agg ul.toArray := hok 10 185 rfl
                  obtain rfl : v11 = .slice (some ⟨gi, 0, none⟩) ni ci := hok 11 186 rfl
                  obtain rfl : v12 = .agg mz.toArray := hok 12 187 rfl
                  obtain rfl : v13 = .agg ul.toArray := hok 13 188 rfl
                  obtain rfl : v14 = .bool false := hok 14 189 rfl
                  obtain rfl : v15 = .bool false := hok 15 190 rfl
                  obtain rfl : v16 = .bool false := hok 16 191 rfl
                  have HB9 : Hid (Below wa5.heap.size wa5 w5) := Lib.hid ⟨hb5.os, hb5.tape, hb5.output, hb5.size, hb5.block⟩
                  clear hb5 hok
                  simp only [List.zip_cons_cons, List.zip_nil_right, putsL]
                  go_simp
                  go_wp2_with fail
                  go_meet
                  case rel => exact ⟨rfl, HB9.out⟩
            · have QR : Hid (((rc : Int) == 0) = false) := Lib.hid (by simp; omega)
              clear hr0
              go_wp2_with fail
              refine region_monos (fun ix9 => ([.is (.int .i64 0), .is (.bool false), .is (.bool false), .is (.int .i64 (rc : Int)), .is (.bool false), .is (.bool false), .is (undef), .is (.bool false), .is (.bool false), .is (undef), .is (undef), .is (undef), .is (undef), .is (undef), .is (undef), .is (.bool false), .is (.bool false)] : List VD).getD ix9 (.is undef)) [some 175, some 176, some 177, some 178, some 179, some 180, some 181, some 182, some 183, some 184, some 185, some 186, some 187, some 188, some 189, some 190, some 191] (by kernel_rfl) (by kernel_rfl) (by kernel_rfl) rfl (fun ii hii => ?_) ?_
              · match ii, hii with
                | 0, _ => exact mstep_first rfl (mwant_none rfl) 24 (Or.inl rfl) (by kernel_rfl) (fun _ _ => rfl)
                | 1, _ => exact mstep_pure rfl (mwant_none rfl) (fun aa ww cc => ⟨.bool false, by have e0 : aa.tmps.getD 175 undef = .int .i64 0 := cc.slot 0 175 (by kernel_rfl) rfl; simp only [execOp, Act.eval]; go_simp, rfl⟩)
                | 2, _ => exact mstep_copy rfl (mwant_none rfl) 176 (Or.inl rfl) 1 (by kernel_rfl) rfl rfl
                | 3, _ => exact mstep_first rfl (mwant 2 false 177 rfl (by kernel_rfl) rfl rfl (by kernel_rfl)) 22 (Or.inl rfl) (by kernel_rfl) (fun _ _ => rfl)
                | 4, _ => exact mstep_pure rfl (mwant 2 false 177 rfl (by kernel_rfl) rfl rfl (by kernel_rfl)) (fun aa ww cc => ⟨.bool false, by have e0 : aa.tmps.getD 178 undef = .int .i64 (rc : Int) := cc.slot 3 178 (by kernel_rfl) rfl; have q := QR.out; simp only [execOp, Act.eval]; go_simp, rfl⟩)
                | 5, _ => exact mstep_copy rfl (mwant 2 false 177 rfl (by kernel_rfl) rfl rfl (by kernel_rfl)) 179 (Or.inl rfl) 4 (by kernel_rfl) rfl rfl
                | 6, _ => exact mstep_unwanted rfl 5 true 180 rfl (by kernel_rfl) rfl (Or.inl rfl) (by kernel_rfl) rfl
                | 7, _ => exact mstep_pure rfl (mwant 2 false 177 rfl (by kernel_rfl) rfl rfl (by kernel_rfl)) (fun aa ww cc => ⟨.bool false, by have e0 : aa.tmps.getD 180 undef = .bool false := cc.slot 5 180 (by kernel_rfl) rfl; simp only [execOp, Act.eval]; go_simp, rfl⟩)
                | 8, _ => exact mstep_copy rfl (mwant 2 false 177 rfl (by kernel_rfl) rfl rfl (by kernel_rfl)) 182 (Or.inl rfl) 7 (by kernel_rfl) rfl rfl
                | 9, _ => exact mstep_unwanted rfl 8 true 183 rfl (by kernel_rfl) rfl (Or.inl rfl) (by kernel_rfl) rfl
                | 10, _ => exact mstep_unwanted rfl 8 true 183 rfl (by kernel_rfl) rfl (Or.inl rfl) (by kernel_rfl) rfl
                | 11, _ => exact mstep_unwanted rfl 8 true 183 rfl (by kernel_rfl) rfl (Or.inl rfl) (by kernel_rfl) rfl
                | 12, _ => exact mstep_unwanted rfl 8 true 183 rfl (by kernel_rfl) rfl (Or.inl rfl) (by kernel_rfl) rfl
                | 13, _ => exact mstep_unwanted rfl 8 true 183 rfl (by kernel_rfl) rfl (Or.inl rfl) (by kernel_rfl) rfl
                | 14, _ => exact mstep_unwanted rfl 8 true 183 rfl (by kernel_rfl) rfl (Or.inl rfl) (by kernel_rfl) rfl
                | 15, _ => exact mstep_pure rfl (mwant 2 false 177 rfl (by kernel_rfl) rfl rfl (by kernel_rfl)) (fun aa ww cc => ⟨.bool false, by have e0 : aa.tmps.getD 183 undef = .bool false := cc.slot 8 183 (by kernel_rfl) rfl; simp only [execOp, Act.eval]; go_simp, rfl⟩)
                | 16, _ => exact mstep_pure rfl (mwant_none rfl) (fun aa ww cc => ⟨.bool false, by have e0 : aa.tmps.getD 177 undef = .bool false := cc.slot 2 177 (by kernel_rfl) rfl; have e1 : aa.tmps.getD 190 undef = .bool false := cc.slot 15 190 (by kernel_rfl) rfl; simp only [execOp, Act.eval]; go_simp, rfl⟩)
                | n + 17, h => exact absurd h (by show ¬ (n + 17 < 17); omega)
              · intro VV w5 hlen hb5 hok
                match VV, hlen with
                | [v0, v1, v2, v3, v4, v5, v6, v7, v8, v9, v10, v11, v12, v13, v14, v15, v16], _ =>
                  obtain rfl : v0 = .int .i64 0 := hok 0 175 rfl
                  obtain rfl : v1 = .bool false := hok 1 176 rfl
                  obtain rfl : v2 = .bool false := hok 2 177 rfl
                  obtain rfl : v3 = .int .i64 (rc : Int) := hok 3 178 rfl
                  obtain rfl : v4 = .bool false := hok 4 179 rfl
                  obtain rfl : v5 = .bool false := hok 5 180 rfl
                  obtain rfl : v6 = undef := hok 6 181 rfl
                  obtain rfl : v7 = .bool false := hok 7 182 rfl
                  obtain rfl : v8 = .bool false := hok 8 183 rfl
                  obtain rfl : v9 = undef := hok 9 184 rfl
                  obtain rfl : v10 = undef := hok 10 185 rfl
                  obtain rfl : v11 = undef := hok 11 186 rfl
                  obtain rfl : v12 = undef := hok 12 187 rfl
                  obtain rfl : v13 = undef := hok 13 188 rfl
                  obtain rfl : v14 = undef := hok 14 189 rfl
                  obtain rfl : v15 = .bool false := hok 15 190 rfl
                  obtain rfl : v16 = .bool false := hok 16 191 rfl
                  have HB9 : Hid (Below wa5.heap.size wa5 w5) := Lib.hid ⟨hb5.os, hb5.tape, hb5.output, hb5.size, hb5.block⟩
                  clear hb5 hok
                  simp only [List.zip_cons_cons, List.zip_nil_right, putsL]
                  go_simp
                  go_wp2_with fail
                  go_meet
                  case rel => exact ⟨rfl, HB9.out⟩
          case rest =>
            as_aux_lemma =>
            obtain ⟨rfl, hbz⟩ := hcut
            have HAF5 := Lib.hid (HAF4.out.1.below hbz)
            have HLN5 := Lib.hid (HLN.out.below hbz)
            have HWA : Hid (w0.heap.size ≤ wa4.heap.size) := Lib.hid HAF4.out.2
            obtain ⟨n5, hn5⟩ : ∃ x, x = (imgB img2).length := ⟨_, rfl⟩
            obtain ⟨v5, hv5⟩ : ∃ x, x = imgV img2 := ⟨_, rfl⟩
            obtain ⟨is5, his5⟩ : ∃ x, x = img2.isSome := ⟨_, rfl⟩
            have HAC : Hid (Calls Tryz.prog 15 #[.pointer (some ⟨bl3, 0, none⟩), .int .i64 0] wc (fun e w' => ∃ A5 c5, e = .returned (.tuple #[.slice A5 n5 c5, .int .u32 (v5 : Int), .bool is5]) ∧ n5 ≤ c5 ∧ RB w' w'.heap.size A5 (imgB img2) ∧ Below wc.heap.size wc w')) := Lib.hid (by
              have h := lactive_calls wc HLN5.out.ld (fun b v e => by have := HPI.out b v (by rw [HIG2.out]; exact e); omega)
              rw [← HIG2.out] at h
              refine Calls.mono h ?_
              rintro e w' ⟨v, ⟨A, c, rfl, h1, h2, _⟩, rfl, hb⟩
              rw [hn5, hv5, his5]
              exact ⟨A, c, rfl, h1, h2, hb⟩)
            have HN5 := Lib.hid (And.intro hn5 (And.intro hv5 his5))
            clear hn5 hv5 his5 hbz HAF4 HLN HRC
            go_wp2_with fail
            go_at_call 15
            with_reducible refine HAC.out.mono ?_
            rintro ea w6 ⟨A5, c5, rfl, hc5, hr5, hb6⟩
            have HR6 : Hid (n5 ≤ c5 ∧ RB w6 w6.heap.size A5 (imgB img2)) := Lib.hid ⟨hc5, hr5⟩
            have HAF6 := Lib.hid (HAF5.out.below hb6)
            have HLN6 := Lib.hid (HLN5.out.below hb6)
            clear hc5 hr5 hb6 HAC HAF5 HLN5
            have qi : (i : Int) < 10 := by have := HI2.out.2; omega
            go_upto_region 43 with (fail)
            go_cut [28] (fun s28 wx => s28 = .bool fr ∧ w6 = wx)
            case first =>
              as_aux_lemma =>
              cases fr with
              | true =>
                have h := (HFR.out.1 rfl).1
                obtain rfl : is5 = true := by rw [HN5.out.2.2, h]; rfl
                have qv : ((v5 : Int) == (i : Int) + 1) = true := by rw [HN5.out.2.1, h]; simp [imgV]
                clear h
                go_wp2_with fail
                go_meet
                case rel => exact ⟨rfl, rfl⟩
              | false =>
              have h := HFR.out.2 rfl
              cases hi : img1 with
              | none =>
                obtain rfl : is5 = false := by rw [HN5.out.2.2, h.1, hi]; rfl
                clear h hi
                go_wp2_with fail
                go_meet
                case rel => exact ⟨rfl, rfl⟩
              | some x =>
              obtain ⟨b, v⟩ := x
              obtain rfl : is5 = true := by rw [HN5.out.2.2, h.1, hi]; rfl
              have qv : ((v5 : Int) == (i : Int) + 1) = false := by
                have h2 := h.2.2 b v hi
                have h3 : v5 = v := by rw [HN5.out.2.1, h.1, hi]; rfl
                rw [h3]
                simp only [beq_eq_false_iff_ne, ne_eq]
                omega
              clear h hi
              go_wp2_with fail
              go_meet
              case rel => exact ⟨rfl, rfl⟩
            case rest =>
            as_aux_lemma =>
            obtain ⟨rfl, rfl⟩ := hcut
            go_upto_region 44 with (fail)
            go_cut [238] (fun s238 wx => s238 = .bool false ∧ Below w6.heap.size w6 wx)
            case first =>
              as_aux_lemma =>
              cases fr with
              | true =>
                obtain ⟨h1, h2⟩ := HFR.out.1 rfl
                have hB : imgB img2 = im2 := by rw [h1]; rfl
                obtain ⟨sb, hsb⟩ : ∃ x, x = strB im2 := ⟨_, rfl⟩
                have CV1 : Hid ((convert 36 9 (.slice A5 n5 c5)).run Tryz.prog w6 = .ok (.string sb) w6) := Lib.hid (by rw [hsb]; exact run_conv w6 (by have h := HR6.out.2; rw [hB] at h; exact h) n5 c5 (by rw [HN5.out.1, hB]))
                have CV2 : Hid ((convert 36 9 (.slice (some ⟨gi, 0, none⟩) ni ci)).run Tryz.prog w6 = .ok (.string sb) w6) := Lib.hid (by rw [hsb]; exact run_conv w6 HAF6.out.ib ni ci HLI.out.symm)
                have HMB : Hid (Blk w6 bm ms) := Lib.hid HAF6.out.mb
                have CK : Hid (Calls Tryz.prog 16 #[.agg ms.toArray, .slice A5 n5 c5] w6 (fun e w' => e = .returned .nilIface ∧ Below w6.heap.size w6 w')) := Lib.hid (by
                  have h := icheck_calls w6 (HG.out.below' HAF6.out.bel) m HM.out.2.2.1 A5 n5 c5 im2 (by rw [HN5.out.1, hB]) (by have h := HR6.out.2; rw [hB] at h; exact h) HR6.out.1 (by rw [HN5.out.1, hB, HLI.out]; have := HNI.out; omega)
                  rw [← HMS.out.1, h2] at h
                  refine Calls.mono h ?_
                  rintro e w' ⟨ev, rfl, hp, hb⟩
                  rcases hp with ⟨_, rfl⟩ | ⟨hp, _⟩
                  · exact ⟨rfl, hb⟩
                  · cases hp)
                clear hsb hB h1 h2
                have hrr : ((rc : Int) == 0) = true ∨ ((rc : Int) == 0) = false := by cases ((rc : Int) == 0) <;> simp
                rcases hrr with qr | qr
                all_goals
                  go_wp2_with (first | ((with_reducible show wpList _ _ _ (Oper.mk (some 210) (Op.convert 36 9 _) _ _ _ _ :: _) _ _); refine wpList_convW (by rfl) _ _ _ rfl _ _ (by rfl) CV1.out ?_) | ((with_reducible show wpList _ _ _ (Oper.mk (some 212) (Op.convert 36 9 _) _ _ _ _ :: _) _ _); refine wpList_convW (by rfl) _ _ _ rfl _ _ (by rfl) CV2.out ?_) | ((with_reducible show wpList _ _ _ (Oper.mk _ (Op.load 47 _) _ _ _ _ :: _) _ _); refine wpList_loadSw sMan (by rfl) _ rfl bm ms rfl HMB.out HMS.out.2.1 ?_))
                  go_at_call 16
                  with_reducible refine CK.out.mono ?_
                  rintro ec w7 ⟨rfl, hb7⟩
                  have HB7 := Lib.hid hb7
                  clear hb7 CK HMB CV1 CV2
                  go_wp2_with fail
                  go_meet
                  case rel => exact ⟨rfl, HB7.out⟩
              | false =>
              obtain ⟨h1, h2, h3⟩ := HFR.out.2 rfl
              have qr : ((rc : Int) == 0) = false := by simp only [beq_eq_false_iff_ne, ne_eq]; omega
              have hl := HAF6.out.la
              cases hi : img1 with
              | none =>
                rw [hi] at hl
                obtain ⟨rfl, rfl, rfl⟩ := hl
                obtain rfl : is5 = false := by rw [HN5.out.2.2, h1, hi]; rfl
                clear h1 h2 h3 hi
                go_wp2_with (((with_reducible show wpList _ _ _ (Oper.mk _ (Op.binOp BinOp.neq 35 _ _ _) _ _ _ _ :: _) _ _); refine wpList_binV (by rfl) _ _ _ _ _ rfl (.bool false) (by exact run_neqnil Tryz.underlying35 _ _ none 0 0 _) ?_))
                go_meet
                case rel => exact ⟨rfl, Below.refl _ _⟩
              | some x =>
              rw [hi] at hl
              obtain ⟨b, v⟩ := x
              have q1 := hl.1
              clear hl
              obtain ⟨ad, rfl⟩ := Option.ne_none_iff_exists'.1 q1
              obtain rfl : is5 = true := by rw [HN5.out.2.2, h1, hi]; rfl
              clear h1 h2 h3 hi q1
              go_wp2_with (((with_reducible show wpList _ _ _ (Oper.mk _ (Op.binOp BinOp.neq 35 _ _ _) _ _ _ _ :: _) _ _); refine wpList_binV (by rfl) _ _ _ _ _ rfl (.bool true) (by exact run_neqnil Tryz.underlying35 _ _ (some ad) nl cl _) ?_))
              go_meet
              case rel => exact ⟨rfl, Below.refl _ _⟩
            case rest =>
            as_aux_lemma =>
            obtain ⟨rfl, hb7⟩ := hcut
            have HAF7 := Lib.hid (HAF6.out.below hb7)
            have HLN7 := Lib.hid (HLN6.out.below hb7)
            have HR7 : Hid (n5 ≤ c5 ∧ RB wc wc.heap.size A5 (imgB img2)) := Lib.hid ⟨HR6.out.1, (HR6.out.2.below hb7).mono hb7.size⟩
            clear hb7 HAF6 HLN6 HR6
            go_upto_if 239 with (fail)
            go_cut [13] (fun s13 wx => ∃ (A9 : Option Addr) (n9 c9 : Nat), s13 = .slice A9 n9 c9 ∧ Hid (LastR wx (WS O4 bl3 br3 bg3 Ae3) A9 n9 c9 img2) ∧ Hid (Below wc.heap.size wc wx))
            case first =>
              as_aux_lemma =>
              cases fr with
              | true =>
                obtain ⟨h1, h2⟩ := HFR.out.1 rfl
                have hB : imgB img2 = im2 := by rw [h1]; rfl
                obtain ⟨n9, hn9⟩ : ∃ x, x = (insOf im2).length := ⟨_, rfl⟩
                have HDC : Hid (Calls Tryz.prog 17 #[.slice A5 n5 c5] wc (fun e w' => ∃ A9 c9, e = .returned (.tuple #[.slice A9 n9 c9, .nilIface]) ∧ LastR w' (WS O4 bl3 br3 bg3 Ae3) A9 n9 c9 img2 ∧ Below wc.heap.size wc w')) := Lib.hid (by
                  have hp := HPI.out _ _ h1
                  have hR := HR7.out
                  rw [hB] at hR
                  have he : n5 = im2.length := by rw [HN5.out.1, hB]
                  have hd := Decode_callsF wc A5 c5 im2 hR.2 (by rw [← he]; exact hR.1) (by omega) (HG.out.below' HAF7.out.bel).hdl
                  rw [← he] at hd
                  refine Calls.mono hd ?_
                  rintro e w' ⟨⟨v, v2, rfl, hv, hf⟩, hb⟩
                  have hck : im2.length % 4 = 0 ∧ check (insOf im2) = none := by have h := hp.1; unfold okPF at h; exact of_decide_eq_true h
                  rcases hv with ⟨q, _⟩ | ⟨_, _, rfl, A, c, rfl, hr⟩ | ⟨_, c, k, q, _⟩
                  · exact absurd hck.1 q
                  · have hne : insOf im2 ≠ [] := fun e => by have := congrArg List.length e; rw [insOf_len] at this; simp at this; omega
                    obtain ⟨b, o, hA, hb9, _⟩ := id hr hne
                    rw [hn9, h1]
                    refine ⟨A, c, rfl, ⟨by rw [hA]; simp, rfl, hr, fun g hg => ?_⟩, hb⟩
                    have hnw := hf A _ c rfl g hg
                    rw [hA] at hg
                    injection hg with hg
                    have hg : b = g := hg
                    exact ⟨by rw [← hg]; exact hb9, HLN7.out.fresh HAF7.out.dk.own hnw⟩
                  · rw [hck.2] at q; cases q)
                clear h1 h2 hB hn9
                go_wp2_with fail
                go_at_call 17
                with_reducible refine HDC.out.mono ?_
                rintro ec w8 ⟨A9, c9, rfl, hl9, hb8⟩
                have HL9 := Lib.hid hl9
                have HB8 := Lib.hid hb8
                clear hl9 hb8 HDC
                go_wp2_with fail
                go_meet
                case rel => exact ⟨A9, n9, c9, rfl, HL9, HB8⟩
              | false =>
              have HL9 : Hid (LastR wc (WS O4 bl3 br3 bg3 Ae3) Al nl cl img2) := Lib.hid (by
                rw [(HFR.out.2 rfl).1]
                exact HAF7.out.la.sub fun g hg hn => HLN7.out.nows (HLA4.out g hg) hn)
              go_wp2_with fail
              go_meet
              case rel => exact ⟨Al, nl, cl, rfl, HL9, Lib.hid (Below.refl _ _)⟩
            case rest =>
            as_aux_lemma =>
            obtain ⟨A9, n9, c9, rfl, HLR, HBY⟩ := hcut
            have HAF8 := Lib.hid (HAF7.out.below HBY.out)
            have HLN8 := Lib.hid (HLN7.out.below HBY.out)
            have HR8 : Hid (n5 ≤ c5 ∧ RB wc wc.heap.size A5 (imgB img2)) := Lib.hid ⟨HR7.out.1, (HR7.out.2.below HBY.out).mono HBY.out.size⟩
            have HNX : Hid (∀ w', Below wc.heap.size wc w' → HdR w0 bd bp n (.int .i64 ((i : Int) + 1)) (.pointer (some ⟨bl3, 0, none⟩)) (.slice A9 n9 c9) w') := Lib.hid fun w' hb => by
              have ha := HAF8.out.below hb
              have hl := HLN8.out.below hb
              have hI := HI2.out
              have hlt := hl.ld.lt.1
              have hold := hl.ld.old.1
              refine ⟨i + 1, s2, O4, wa4.heap.size, bl3, br3, bg3, bs3, bq3, Ae3, ce3, A9, n9, c9, by omega, by omega, by go_num, rfl, rfl, ImS.mk' ha.bel ha.dk ha.oB HWA.out ha.pt ha.pn hl HIN2.out ?_, hl.oL, by omega⟩
              rw [← HIG2.out]
              exact HLR.out.keep (fun g hg _ => hb.block g hg) hb.size (fun _ _ h => h)
            have HGH : Hid (∀ w', Below wc.heap.size wc w' → Hdl w') := Lib.hid fun w' hb => (HG.out.below' (HAF8.out.below hb).bel).hdl
            clear HAF7 HLN7 HR7 HBY HAF8 HLN8 HFR HLA4 HWA HIN2 HIG2
            cases hi : img2 with
            | none =>
              rw [hi] at HLR
              obtain ⟨rfl, rfl, rfl⟩ := HLR.out
              clear hi HLR
              go_wp2_with (((with_reducible show wpList _ _ _ (Oper.mk _ (Op.binOp BinOp.neq 35 _ _ _) _ _ _ _ :: _) _ _); refine wpList_binV (by rfl) _ _ _ _ _ rfl (.bool false) (by exact run_neqnil Tryz.underlying35 _ _ none 0 0 _) ?_))
              go_roundw
              case rel => exact HNX.out _ (Below.refl _ _)
              case measure => simp [intOf]; omega
            | some bv5 =>
            as_aux_lemma =>
            obtain ⟨b, v⟩ := bv5
            rw [hi] at HLR HN5 HR8 HPI
            obtain ⟨q1, q2, q3, _⟩ := HLR.out
            obtain ⟨ad, rfl⟩ := Option.ne_none_iff_exists'.1 q1
            obtain rfl : is5 = true := HN5.out.2.2
            have hp := HPI.out b v rfl
            have hck : b.length % 4 = 0 ∧ check (insOf b) = none := by have h := hp.1; unfold okPF at h; exact of_decide_eq_true h
            obtain ⟨I, hI⟩ : ∃ x, x = insOf b := ⟨_, rfl⟩
            have HBL : Hid (n5 = b.length ∧ b.length % 4 = 0 ∧ 4 ≤ b.length ∧ b.length ≤ 512 ∧ check (insOf b) = none) := Lib.hid ⟨HN5.out.1, hck.1, hp.2.1, hp.2.2, hck.2⟩
            have HIE : Hid (encI I = b ∧ n9 = I.length ∧ n9 ≤ 128 ∧ I = insOf b) := Lib.hid (by
              rw [hI]
              refine ⟨encI_insOf b hck.1, q2, ?_, rfl⟩
              rw [q2, insOf_len]
              omega)
            have HRI : Hid (RIn wc wc.heap.size (some ad) I) := Lib.hid (by rw [hI]; exact q3)
            have HRB5 : Hid (n5 ≤ c5 ∧ RB wc wc.heap.size A5 b) := Lib.hid HR8.out
            obtain ⟨m0, hm0⟩ : ∃ x, x = newM (room words) := ⟨_, rfl⟩
            obtain ⟨ns, hns⟩ : ∃ x, x = ((st : Int)).toNat := ⟨_, rfl⟩
            obtain ⟨m1, k1, z1, j1, hx⟩ : ∃ m1 k1 z1 j1, runM I ns (m0, 0, 0) = ((m1, k1, z1), j1) := ⟨_, _, _, _, rfl⟩
            have HM1 : Hid (m1.r.length = 8 ∧ m1.mem.length ≤ 64) := Lib.hid (by
              have h := runM_lens I ns (m0, 0, 0)
              rw [hx] at h
              refine ⟨h.1.trans (by rw [hm0]; rfl), ?_⟩
              have h3 : m1.mem.length = m0.mem.length := h.2
              rw [h3, hm0]
              have := room_le words
              simp only [newM, List.length_replicate]
              exact this)
            have HNEW : Hid (∀ w, Calls Tryz.prog 19 #[.int .i64 words] w (fun e w' => ∃ A c, e = .returned (mv m0 A c) ∧ RWd w' w'.heap.size A m0.mem ∧ Below w.heap.size w w')) := Lib.hid fun w => by
              refine (New_calls w words).mono ?_
              rintro e w' ⟨A, c, rfl, _, ho, hb⟩
              rw [hm0]
              exact ⟨A, c, rfl, ho.rw, hb⟩
            have HRUN : Hid (∀ w A c A' c', Below wc.heap.size wc w → RWd w w.heap.size A m0.mem → RIn w w.heap.size A' I → Calls Tryz.prog 18 #[.slice A' n9 c', mv m0 A c, .int .i64 (st : Int)] w (fun e w' => ∃ A c, e = .returned (.tuple #[mv m1 A c, evv k1 z1, .int .i64 (j1 : Int)]) ∧ RWd w' w'.heap.size A m1.mem ∧ Below w.heap.size w w')) := Lib.hid fun w A c A' c' hb hw hr => by
              have h := Run_calls w (HGH.out w hb) A c m0 (by rw [hm0]; rfl) hw (by rw [hm0]; have := room_le words; simp only [newM, List.length_replicate]; omega) A' c' I hr (by have := HIE.out; omega) (st : Int) (by have := HST.out; omega)
              rw [← HIE.out.2.1, ← hns, hx] at h
              refine Calls.mono h ?_
              rintro e w' ⟨A, c, rfl, _, ho, hb⟩
              exact ⟨A, c, rfl, ho.rw, hb⟩
            have HPG : Hid (∀ w, Below wc.heap.size wc w → Calls Tryz.prog 20 #[.slice A5 n5 c5] w (fun e w' => ∃ A c, e = .returned (.slice A n9 c) ∧ RIn w' w'.heap.size A I ∧ Below w.heap.size w w')) := Lib.hid fun w hb => by
              have hB := HBL.out
              have h := prog0_calls w A5 n5 c5 b hB.1 ((HRB5.out.2.below hb).mono hb.size) HRB5.out.1 (by omega) (HGH.out w hb)
              refine Calls.mono h ?_
              rintro e w' ⟨v, v2, rfl, hv, hb⟩
              have hie := HIE.out
              rcases hv with ⟨q, _⟩ | ⟨_, _, _, A, c, rfl, hr⟩ | ⟨_, c, k, q, _⟩
              · exact absurd hB.2.1 q
              · rw [hie.2.1, hie.2.2.2]
                exact ⟨A, c, rfl, hr, hb⟩
              · rw [hB.2.2.2.2] at q; cases q
            have F0 : Hid (∀ w', Below wc.drew.heap.size wc.drew w' → RBy b (.slice A5 n5 c5) w') := Lib.hid fun w' hb => by
              have hbz : Below wc.heap.size wc w' := ⟨hb.os, hb.tape, hb.output, hb.size, hb.block⟩
              exact ⟨A5, c5, by rw [HBL.out.1], (HRB5.out.2.below hbz).mono hbz.size⟩
            have EC : Hid (∀ w', Below wc.drew.heap.size wc.drew w' → Calls Tryz.prog 8 #[.slice (some ad) n9 c9] w' fun e w'' => ∃ v, e = .returned v ∧ (byt b).ok v w'' ∧ Below w'.heap.size w' w'') := Lib.hid fun w' hb => by
              have hbz : Below wc.heap.size wc w' := ⟨hb.os, hb.tape, hb.output, hb.size, hb.block⟩
              have hie := HIE.out
              have h := Encode_callsO w' (some ad) c9 I ((HRI.out.below hbz).mono hbz.size) (by omega)
              rw [← hie.2.1, hie.1] at h
              refine Calls.mono h ?_
              rintro e w'' ⟨Aq, cq, rfl, ho, hb2⟩
              exact ⟨_, rfl, ⟨Aq, cq, rfl, ho.rb⟩, hb2⟩
            have qst : (st : Int) < 256 := by have := HST.out; omega
            clear hi HLR q1 q2 q3 hp hck hI hm0 hns hx HN5 HR8 HPI HGH
            go_wp2_with (((with_reducible show wpList _ _ _ (Oper.mk _ (Op.binOp BinOp.neq 35 _ _ _) _ _ _ _ :: _) _ _); refine wpList_binV (by rfl) _ _ _ _ _ rfl (.bool true) (by exact run_neqnil Tryz.underlying35 _ _ (some ad) n9 c9 _) ?_))
            refine region_monos (fun ix9 => ([.is (.bool true), .is (.bool false), .is (.bool false), (byt b), .is (.string (strB b)), .is (.slice (some ad) n9 c9), (byt b), .is (.string (strB b)), .is (.bool false), .is (.bool false)] : List VD).getD ix9 (.is undef)) [some 247, some 248, some 249, some 250, some 251, some 252, some 253, some 254, some 255, some 256] (by kernel_rfl) (by kernel_rfl) (by kernel_rfl) rfl (fun ii hii => ?_) ?_
            · match ii, hii with
              | 0, _ => exact mstep_first rfl (mwant_none rfl) 27 (Or.inl rfl) (by kernel_rfl) (fun _ _ => rfl)
              | 1, _ => exact mstep_pure rfl (mwant_none rfl) (fun aa ww cc => ⟨.bool false, by have e0 : aa.tmps.getD 247 undef = .bool true := cc.slot 0 247 (by kernel_rfl) rfl; simp only [execOp, Act.eval]; go_simp, rfl⟩)
              | 2, _ => exact mstep_copy rfl (mwant_none rfl) 248 (Or.inl rfl) 1 (by kernel_rfl) rfl rfl
              | 3, _ => exact mstep_first rfl (mwant 2 false 249 rfl (by kernel_rfl) rfl rfl (by kernel_rfl)) 25 (Or.inl rfl) (by kernel_rfl) (fun ww hb => F0.out ww hb)
              | 4, _ => exact mstep_conv rfl (mwant 2 false 249 rfl (by kernel_rfl) rfl rfl (by kernel_rfl)) 250 rfl 3 (by kernel_rfl) rfl _ rfl rfl
              | 5, _ => exact mstep_first rfl (mwant 2 false 249 rfl (by kernel_rfl) rfl rfl (by kernel_rfl)) 13 (Or.inl rfl) (by kernel_rfl) (fun _ _ => rfl)
              | 6, _ => exact mstep_call rfl (mwant 2 false 249 rfl (by kernel_rfl) rfl rfl (by kernel_rfl)) _ _ _ rfl (enters_of Tryz.func8 (by kernel_rfl) rfl) (fun aa ww cc => by have e0 : aa.tmps.getD 252 undef = .slice (some ad) n9 c9 := cc.slot 5 252 (by kernel_rfl) rfl; simp only [List.map_toArray, List.map_cons, List.map_nil, Act.eval, e0]; exact EC.out ww cc.below)
              | 7, _ => exact mstep_conv rfl (mwant 2 false 249 rfl (by kernel_rfl) rfl rfl (by kernel_rfl)) 253 rfl 6 (by kernel_rfl) rfl _ rfl rfl
              | 8, _ => exact mstep_pure rfl (mwant 2 false 249 rfl (by kernel_rfl) rfl rfl (by kernel_rfl)) (fun aa ww cc => ⟨.bool false, by have e0 : aa.tmps.getD 251 undef = .string (strB b) := cc.slot 4 251 (by kernel_rfl) rfl; have e1 : aa.tmps.getD 254 undef = .string (strB b) := cc.slot 7 254 (by kernel_rfl) rfl; simp only [execOp, Act.eval]; go_simp, rfl⟩)
              | 9, _ => exact mstep_pure rfl (mwant_none rfl) (fun aa ww cc => ⟨.bool false, by have e0 : aa.tmps.getD 249 undef = .bool false := cc.slot 2 249 (by kernel_rfl) rfl; have e1 : aa.tmps.getD 255 undef = .bool false := cc.slot 8 255 (by kernel_rfl) rfl; simp only [execOp, Act.eval]; go_simp, rfl⟩)
              | n + 10, h => exact absurd h (by show ¬ (n + 10 < 10); omega)
            · intro VV w5 hlen hb5 hok
              match VV, hlen with
              | [v0, v1, v2, v3, v4, v5, v6, v7, v8, v9], _ =>
                obtain rfl : v0 = .bool true := hok 0 247 rfl
                obtain rfl : v1 = .bool false := hok 1 248 rfl
                obtain rfl : v2 = .bool false := hok 2 249 rfl
                have p3 := hok 3 250 rfl
                obtain rfl : v4 = .string (strB b) := hok 4 251 rfl
                obtain rfl : v5 = .slice (some ad) n9 c9 := hok 5 252 rfl
                have p6 := hok 6 253 rfl
                obtain rfl : v7 = .string (strB b) := hok 7 254 rfl
                obtain rfl : v8 = .bool false := hok 8 255 rfl
                obtain rfl : v9 = .bool false := hok 9 256 rfl
                have HBZ : Hid (Below wc.heap.size wc w5) := Lib.hid ⟨hb5.os, hb5.tape, hb5.output, hb5.size, hb5.block⟩
                clear hb5 hok p3 p6 F0 EC
                simp only [List.zip_cons_cons, List.zip_nil_right, putsL]
                go_simp
                go_wp2_with fail
                go_at_call 19
                with_reducible refine (HNEW.out w5).mono ?_
                rintro ep n1 ⟨Ax1, cx1, rfl, hwn, hbn⟩
                have HN1 : Hid (Below wc.heap.size wc n1) := Lib.hid (HBZ.out.trans (hbn.mono HBZ.out.size))
                have HCR1 : Hid (Calls Tryz.prog 18 #[.slice (some ad) n9 c9, mv m0 Ax1 cx1, .int .i64 (st : Int)] n1 (fun e w' => ∃ A c, e = .returned (.tuple #[mv m1 A c, evv k1 z1, .int .i64 (j1 : Int)]) ∧ RWd w' w'.heap.size A m1.mem ∧ Below n1.heap.size n1 w')) := Lib.hid (HRUN.out n1 Ax1 cx1 (some ad) c9 HN1.out hwn ((((HRI.out.below HBZ.out).mono HBZ.out.size).below hbn).mono hbn.size))
                clear hwn hbn
                go_wp2_with fail
                go_at_call 18
                with_reducible refine HCR1.out.mono ?_
                rintro ep r1 ⟨Ab1, cb1, rfl, hwr, hbr⟩
                have HR1 : Hid (Below wc.heap.size wc r1) := Lib.hid (HN1.out.trans (hbr.mono HN1.out.size))
                have HRW01 : Hid (RWd r1 r1.heap.size Ab1 m1.mem) := Lib.hid hwr
                clear hwr hbr HCR1 HN1
                go_wp2_with (((with_reducible show wpList _ _ _ (Oper.mk (some 29) (Op.alloc 61) _ _ _ _ :: _) _ _); refine wpList_allocS _ zMach rfl rfl ?_))
                intro a1 hba hga hsa
                obtain ⟨ma1, hma⟩ : ∃ x, x = r1.heap.size := ⟨_, rfl⟩
                rw [← hma] at hba ⊢
                have HBA := Lib.hid hba
                have HSA : Hid (Below r1.heap.size r1 a1) := Lib.hid (gbelow hga)
                have HME : Hid (ma1 = r1.heap.size) := Lib.hid hma
                clear hba hga hsa hma
                go_wp2_with (((with_reducible show wpList _ _ _ (Oper.mk (some 30) (Op.alloc 63) _ _ _ _ :: _) _ _); refine wpList_allocS _ zEv rfl rfl ?_))
                intro b1 hbb hgb hsb
                obtain ⟨ea1, hea⟩ : ∃ x, x = a1.heap.size := ⟨_, rfl⟩
                rw [← hea] at hbb ⊢
                have HBB := Lib.hid hbb
                have HBA2 := Lib.hid (HBA.out.below (gbelow hgb) HBA.out.lt)
                have HSB : Hid (Below r1.heap.size r1 b1) := Lib.hid (HSA.out.trans ((gbelow hgb).mono HSA.out.size))
                have HEE2 : Hid (ma1 < ea1 ∧ r1.heap.size ≤ ea1) := Lib.hid ⟨by rw [hea]; exact HBA.out.lt, by rw [hea]; exact HSA.out.size⟩
                clear hbb hgb hsb hea HBA HSA
                go_wp2_with (((with_reducible show wpList _ _ _ (Oper.mk _ (Op.store 61 _ _) _ _ _ _ :: _) _ _); refine wpList_storeS sMach rfl _ _ rfl ma1 (mcs zM none 0) (mcs m1 Ab1 cb1) rfl rfl HBA2.out rfl (mcs_len HM1.out.1) (mcs_one _ _ _) ?_))
                intro c1 hbc hgc
                have HMC := Lib.hid hbc
                have HBC := Lib.hid (HBB.out.grown hgc (fun e => by injection e with e; have := HEE2.out.1; omega))
                have HSC : Hid (Below r1.heap.size r1 c1) := Lib.hid (HSB.out.grown hgc HSB.out.size (fun j e => by injection e with e; have := HME.out; omega))
                clear hbc hgc HBB HBA2 HSB
                go_wp2_with (((with_reducible show wpList _ _ _ (Oper.mk _ (Op.store 63 _ _) _ _ _ _ :: _) _ _); refine wpList_storeS sEv rfl _ _ rfl ea1 (ecs 0 0) (ecs k1 z1) rfl rfl HBC.out rfl rfl (ecs_one _ _) ?_))
                intro d1 hbd hgd
                have HEA1 : Hid (Blk d1 ea1 (ecs k1 z1)) := Lib.hid hbd
                have HMA1 : Hid (Blk d1 ma1 (mcs m1 Ab1 cb1)) := Lib.hid (HMC.out.grown hgd (fun e => by injection e with e; have := HEE2.out.1; omega))
                have HSD : Hid (Below r1.heap.size r1 d1) := Lib.hid (HSC.out.grown hgd HSC.out.size (fun j e => by injection e with e; have := HEE2.out.2; omega))
                have HRW1 : Hid (RWd d1 d1.heap.size Ab1 m1.mem) := Lib.hid ((HRW01.out.below HSD.out).mono HSD.out.size)
                have HW1 : Hid (Below wc.heap.size wc d1) := Lib.hid (HR1.out.trans (HSD.out.mono HR1.out.size))
                clear hbd hgd HBC HMC HSC HSD HRW01 HR1 HME HEE2
                go_wp2_with fail
                go_at_call 20
                with_reducible refine (HPG.out d1 HW1.out).mono ?_
                rintro ep p2 ⟨Ap2, cp2, rfl, hrp, hbp⟩
                have HP2 : Hid (Below wc.heap.size wc p2) := Lib.hid (HW1.out.trans (hbp.mono HW1.out.size))
                have HI2 : Hid (RIn p2 p2.heap.size Ap2 I) := Lib.hid hrp
                have HDp2 : Hid (Below d1.heap.size d1 p2) := Lib.hid hbp
                clear hrp hbp
                go_wp2_with fail
                go_at_call 19
                with_reducible refine (HNEW.out p2).mono ?_
                rintro ep n2 ⟨Ax2, cx2, rfl, hwn, hbn⟩
                have HN2 : Hid (Below wc.heap.size wc n2) := Lib.hid (HP2.out.trans (hbn.mono HP2.out.size))
                have HCR2 : Hid (Calls Tryz.prog 18 #[.slice Ap2 n9 cp2, mv m0 Ax2 cx2, .int .i64 (st : Int)] n2 (fun e w' => ∃ A c, e = .returned (.tuple #[mv m1 A c, evv k1 z1, .int .i64 (j1 : Int)]) ∧ RWd w' w'.heap.size A m1.mem ∧ Below n2.heap.size n2 w')) := Lib.hid (HRUN.out n2 Ax2 cx2 Ap2 cp2 HN2.out hwn ((HI2.out.below hbn).mono hbn.size))
                have HDn2 : Hid (Below d1.heap.size d1 n2) := Lib.hid (HDp2.out.trans (hbn.mono HDp2.out.size))
                clear hwn hbn
                go_wp2_with fail
                go_at_call 18
                with_reducible refine HCR2.out.mono ?_
                rintro ep r2 ⟨Ab2, cb2, rfl, hwr, hbr⟩
                have HR2 : Hid (Below wc.heap.size wc r2) := Lib.hid (HN2.out.trans (hbr.mono HN2.out.size))
                have HRW02 : Hid (RWd r2 r2.heap.size Ab2 m1.mem) := Lib.hid hwr
                have HDr2 : Hid (Below d1.heap.size d1 r2) := Lib.hid (HDn2.out.trans (hbr.mono HDn2.out.size))
                clear hwr hbr HCR2 HN2
                go_wp2_with (((with_reducible show wpList _ _ _ (Oper.mk (some 32) (Op.alloc 61) _ _ _ _ :: _) _ _); refine wpList_allocS _ zMach rfl rfl ?_))
                intro a2 hba hga hsa
                obtain ⟨ma2, hma⟩ : ∃ x, x = r2.heap.size := ⟨_, rfl⟩
                rw [← hma] at hba ⊢
                have HBA := Lib.hid hba
                have HSA : Hid (Below r2.heap.size r2 a2) := Lib.hid (gbelow hga)
                have HME : Hid (ma2 = r2.heap.size) := Lib.hid hma
                clear hba hga hsa hma
                go_wp2_with (((with_reducible show wpList _ _ _ (Oper.mk (some 33) (Op.alloc 63) _ _ _ _ :: _) _ _); refine wpList_allocS _ zEv rfl rfl ?_))
                intro b2 hbb hgb hsb
                obtain ⟨ea2, hea⟩ : ∃ x, x = a2.heap.size := ⟨_, rfl⟩
                rw [← hea] at hbb ⊢
                have HBB := Lib.hid hbb
                have HBA2 := Lib.hid (HBA.out.below (gbelow hgb) HBA.out.lt)
                have HSB : Hid (Below r2.heap.size r2 b2) := Lib.hid (HSA.out.trans ((gbelow hgb).mono HSA.out.size))
                have HEE2 : Hid (ma2 < ea2 ∧ r2.heap.size ≤ ea2) := Lib.hid ⟨by rw [hea]; exact HBA.out.lt, by rw [hea]; exact HSA.out.size⟩
                clear hbb hgb hsb hea HBA HSA
                go_wp2_with (((with_reducible show wpList _ _ _ (Oper.mk _ (Op.store 61 _ _) _ _ _ _ :: _) _ _); refine wpList_storeS sMach rfl _ _ rfl ma2 (mcs zM none 0) (mcs m1 Ab2 cb2) rfl rfl HBA2.out rfl (mcs_len HM1.out.1) (mcs_one _ _ _) ?_))
                intro c2 hbc hgc
                have HMC := Lib.hid hbc
                have HBC := Lib.hid (HBB.out.grown hgc (fun e => by injection e with e; have := HEE2.out.1; omega))
                have HSC : Hid (Below r2.heap.size r2 c2) := Lib.hid (HSB.out.grown hgc HSB.out.size (fun j e => by injection e with e; have := HME.out; omega))
                clear hbc hgc HBB HBA2 HSB
                go_wp2_with (((with_reducible show wpList _ _ _ (Oper.mk _ (Op.store 63 _ _) _ _ _ _ :: _) _ _); refine wpList_storeS sEv rfl _ _ rfl ea2 (ecs 0 0) (ecs k1 z1) rfl rfl HBC.out rfl rfl (ecs_one _ _) ?_))
                intro d2 hbd hgd
                have HEA2 : Hid (Blk d2 ea2 (ecs k1 z1)) := Lib.hid hbd
                have HMA2 : Hid (Blk d2 ma2 (mcs m1 Ab2 cb2)) := Lib.hid (HMC.out.grown hgd (fun e => by injection e with e; have := HEE2.out.1; omega))
                have HSD : Hid (Below r2.heap.size r2 d2) := Lib.hid (HSC.out.grown hgd HSC.out.size (fun j e => by injection e with e; have := HEE2.out.2; omega))
                have HRW2 : Hid (RWd d2 d2.heap.size Ab2 m1.mem) := Lib.hid ((HRW02.out.below HSD.out).mono HSD.out.size)
                have HW2 : Hid (Below wc.heap.size wc d2) := Lib.hid (HR2.out.trans (HSD.out.mono HR2.out.size))
                have HD2 : Hid (Below d1.heap.size d1 d2) := Lib.hid (HDr2.out.trans (HSD.out.mono HDr2.out.size))
                clear hbd hgd HBC HMC HSC HSD HRW02 HR2 HME HEE2
                have HNQ : Hid (∀ (p q : Operand) (ww : World), (do eqGuard .neq 63 p q (.agg #[.int .i64 k1, .int .i64 z1]) (.agg #[.int .i64 k1, .int .i64 z1]); binOp .neq 63 (.agg #[.int .i64 k1, .int .i64 z1]) (.agg #[.int .i64 k1, .int .i64 z1]) : Sem Value).run Tryz.prog ww = .ok (.bool false) ww) := Lib.hid fun p q ww => by go_simp
                have K29 : Hid (Blk d2 ma1 (mcs m1 Ab1 cb1)) := Lib.hid (HMA1.out.below HD2.out HMA1.out.lt)
                have K30 : Hid (Blk d2 ea1 [.int .i64 k1, .int .i64 z1]) := Lib.hid (HEA1.out.below HD2.out HEA1.out.lt)
                have K33 : Hid (Blk d2 ea2 [.int .i64 k1, .int .i64 z1]) := HEA2
                have AL : Hid (Calls Tryz.prog 21 #[.agg (mcs m1 Ab1 cb1).toArray, .agg (mcs m1 Ab2 cb2).toArray] d2 (RetTrue d2)) := Lib.hid (by exact alike_calls d2 Ab1 Ab2 cb1 cb2 m1 HM1.out.1 ((HRW1.out.below HD2.out).mono HD2.out.size) HRW2.out (by have := HM1.out.2; omega))
                go_wp2_with (first | ((with_reducible show wpList _ _ _ (Oper.mk (some 278) (Op.load 61 _) _ _ _ _ :: _) _ _); refine wpList_loadS sMach rfl _ rfl ma1 _ rfl K29.out (mcs_len HM1.out.1) ?_) | ((with_reducible show wpList _ _ _ (Oper.mk (some 279) (Op.load 61 _) _ _ _ _ :: _) _ _); refine wpList_loadS sMach rfl _ rfl ma2 _ rfl HMA2.out (mcs_len HM1.out.1) ?_))
                go_at_call 21
                with_reducible refine AL.out.mono ?_
                rintro ez x1 ⟨rfl, hbx⟩
                have X30 := Lib.hid (K30.out.below hbx K30.out.lt)
                have X33 := Lib.hid (K33.out.below hbx K33.out.lt)
                have HNX1 := Lib.hid (HNX.out x1 (HW2.out.trans (hbx.mono HW2.out.size)))
                clear hbx AL K29 K30 K33 HMA1 HMA2 HEA1 HEA2 HRW1 HRW2 HD2 HW1 HW2 HNX
                go_wp2_with (first | ((with_reducible show wpList _ _ _ (Oper.mk (some 283) (Op.load 63 _) _ _ _ _ :: _) _ _); refine wpList_loadSw sEv (by rfl) _ rfl ea1 [.int .i64 k1, .int .i64 z1] rfl X30.out rfl ?_) | ((with_reducible show wpList _ _ _ (Oper.mk (some 284) (Op.load 63 _) _ _ _ _ :: _) _ _); refine wpList_loadSw sEv (by rfl) _ rfl ea2 [.int .i64 k1, .int .i64 z1] rfl X33.out rfl ?_) | ((with_reducible show wpList _ _ _ (Oper.mk _ (Op.binOp BinOp.neq 63 _ _ _) _ _ _ _ :: _) _ _); refine wpList_binV (by rfl) _ _ _ _ _ rfl (.bool false) (HNQ.out _ _ _) ?_))
                go_roundw
                case rel => exact HNX1.out
                case measure => simp [intOf]; omega
          --END]
    ·
      as_aux_lemma =>
      have HLF := Lib.hid (load_facts shaF okPF HIM.out.inv)
      have HEC := Lib.hid (lentries_calls wr HIM.out.ld (by have := HLF.out.2.2; have := HI10.out; omega))
      obtain ⟨ln, hln⟩ : ∃ x, x = (logAt s).length := ⟨_, rfl⟩
      obtain ⟨gn, hgn⟩ : ∃ x, x = (loadF shaF okPF (secAt s)).gen := ⟨_, rfl⟩
      rw [← hln] at HEC
      have HB10 : Hid (ln ≤ 10 ∧ gn ≤ 10) := Lib.hid (by have := HLF.out; have := HI10.out; rw [hln, hgn]; omega)
      have HGN := Lib.hid hgn
      have HBB : Hid (∀ (w : World) (v0 : Value), Calls Tryz.prog 10 #[v0, .agg #[.int .i64 0, .int .u32 0, .int .i64 0, .int .u8 0, .int .u8 0, .int .u8 0, .int .u8 0, .int .u8 0, .int .u8 0, .int .u8 0, .int .u8 0, .int .u8 0, .int .u8 0, .int .u8 0, .int .u8 0, .int .u8 0, .int .u8 0, .int .u8 0, .int .u8 0, .int .u8 0, .int .u8 0, .int .u8 0, .int .u8 0, .int .u8 0, .int .u8 0, .int .u8 0, .int .u8 0, .int .u8 0, .int .u8 0, .int .u8 0, .int .u8 0, .int .u8 0, .int .u8 0, .int .u8 0, .int .u8 0]] w (fun e w' => e = .returned (.int .i64 1) ∧ Below w.heap.size w w')) := Lib.hid fun w v0 => by
        rw [show (.agg #[.int .i64 0, .int .u32 0, .int .i64 0, .int .u8 0, .int .u8 0, .int .u8 0, .int .u8 0, .int .u8 0, .int .u8 0, .int .u8 0, .int .u8 0, .int .u8 0, .int .u8 0, .int .u8 0, .int .u8 0, .int .u8 0, .int .u8 0, .int .u8 0, .int .u8 0, .int .u8 0, .int .u8 0, .int .u8 0, .int .u8 0, .int .u8 0, .int .u8 0, .int .u8 0, .int .u8 0, .int .u8 0, .int .u8 0, .int .u8 0, .int .u8 0, .int .u8 0, .int .u8 0, .int .u8 0, .int .u8 0] : Value) = .agg (mcells zMan).toArray from by kernel_rfl]
        exact lbegin_bad w v0 zMan rfl rfl
      have hb10 := HB10.out
      obtain ⟨hb1, hb2⟩ := hb10
      have hb1' : (ln : Int) ≤ 10 := by omega
      have hb2' : (gn : Int) ≤ 10 := by omega
      clear hln hgn
      rcases (by omega : ¬ (i : Int) < n ∨ ((i : Int) < n ∧ ¬ (i : Int) < 10)) with q1 | ⟨q1, q2⟩
      all_goals
        go_wp2_with fail
        go_at_call 22
        with_reducible refine HEC.out.mono ?_
        rintro e w4 ⟨Ax, cx, rfl, hb4⟩
        have HI4 : Hid (Below w0.heap.size w0 w4) := Lib.hid (HIM.out.bel.trans (hb4.mono HIM.out.bel.size))
        have HGC := Lib.hid (lgeneration_calls w4 (HIM.out.ld.below hb4))
        rw [← HGN.out] at HGC
        clear hb4
        go_wp2_with fail
        go_at_call 23
        with_reducible refine HGC.out.mono ?_
        rintro e w5 ⟨rfl, rfl⟩
        clear HGC
        go_wp2_with fail
        go_at_call 10
        with_reducible refine (HBB.out w5 (.pointer (some ⟨bl2, 0, none⟩))).mono ?_
        rintro e w6 ⟨rfl, hb6⟩
        have HI6 : Hid (Below w0.heap.size w0 w6) := Lib.hid (HI4.out.trans (hb6.mono HI4.out.size))
        clear hb6
        go_wp2_with fail
        go_ret
        exact ⟨rfl, HI6.out⟩
end Go.Proofs.YtjfpoahmjgeogaaGreatDoor
