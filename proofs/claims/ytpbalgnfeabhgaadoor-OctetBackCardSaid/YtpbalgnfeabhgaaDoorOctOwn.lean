/- octet's reader: Bytes, where it does not fail; OctetOwn. -/
import Derived.Test.YtpbalgnfeabhgaaDoorOctUnlike
import Derived.Test.YtpbalgnfeabhgaaDoorStoreB
import Derived.Laws.BitsAllLaws
namespace Go.Proofs.YtpbalgnfeabhgaaDoor
open Go.RowKit Nac Nac.Crc
theorem cell_of_heap {w w' : World} {p : Addr} (h : w'.heap[p.block]? = w.heap[p.block]?) : w'.cell? p = w.cell? p := by
  unfold World.cell?
  rw [h]
theorem rdm_other {w w' : World} {b c k : Nat} {A : Option Addr} {r : Rdr} (h : RdM w b A c r) (hg : w.grownBy w' (some k)) (hne : k ≠ b) (hA : ∀ g, A.map (·.block) = some g → k ≠ g) : RdM w' b A c r :=
  ⟨h.blk.grown hg (fun e => hne (by injection e)), fun hn => by
    obtain ⟨b0, o, he, hlt, hc⟩ := h.rb hn
    subst he
    refine ⟨b0, o, rfl, hlt, fun j hj => ?_⟩
    have hb := h.blk.lt
    have e : w'.heap[b0]? = w.heap[b0]? := hg.block b0 (by omega) (fun e => hA b0 rfl (by injection e with e; exact e.symm))
    exact (cell_of_heap (p := ⟨b0, o + j, none⟩) e).trans (hc j hj), h.cap, h.pos⟩
def RetRd2 (w : World) (l : List UInt8) (e : Ending) (w' : World) : Prop := ∃ b A c, e = .returned (.pointer (some ⟨b, 0, none⟩)) ∧ RdM w' b A c ⟨l, 0, 0⟩ ∧ w.heap.size ≤ b ∧ (∀ g, A.map (·.block) = some g → w.heap.size ≤ g) ∧ Below w.heap.size w w'
set_option maxHeartbeats 1000000 in
theorem read2_calls (w : World) (B : Nat) (A : Option Addr) (c : Nat) (l : List UInt8) (h : RB w B A l) (hB : B ≤ w.heap.size) (h8 : l.length ≤ 140737488351232) :
    Calls Tryd.prog 16 #[.slice A l.length c] w (RetRd2 w l) := by
  go_enter Tryd.func16, Tryd.ntmps16
  go_wp2_with (at_builtin; refine wpList_app_bytes _ rfl _ _ rfl w.heap.size none 0 [] _ rfl rfl (OB.nil _ _) A c l _ rfl rfl h (by simp; omega) (Nat.le_refl _) ?_)
  intro A' c' L w1 HL ho hg _
  have hL : L = l := HL.out
  subst hL
  have HO := Lib.hid ho
  have HG : Hid (Below w.heap.size w w1) := (Below.refl _ _).grown hg (Nat.le_refl _) (fun k e => by cases e)
  clear HL ho hg
  go_wp2
  go_ret
  have hrb := HO.out.rb
  refine ⟨w1.heap.size, A', c', rfl, ⟨Blk.new w1 _ _, hrb.below ((Below.refl _ _).alloc (Nat.le_refl _) _), HO.out.len, Nat.zero_le _⟩, HG.out.size, fun g hg => (HO.out.lt g hg).1, HG.out.alloc HG.out.size _⟩
def RetBytes (w : World) (b : Nat) (A : Option Addr) (c : Nat) (r : Rdr) (n : Nat) (e : Ending) (w' : World) : Prop :=
  ∃ A' c', e = .returned (.slice A' n c') ∧ OB w' w.heap.size A' c' ((r.l.drop r.pos).take n) ∧ RdM w' b A c { r with pos := r.pos + n } ∧ w.grownBy w' (some b)
set_option maxHeartbeats 1000000 in
theorem bytes_calls (w : World) (b : Nat) (A : Option Addr) (c : Nat) (r : Rdr) (h : RdM w b A c r) (h8 : r.l.length ≤ 140737488351232) (n : Nat) (hc : r.code = 0) (hl : n ≤ r.left) :
    Calls Tryd.prog 17 #[.pointer (some ⟨b, 0, none⟩), .int .i64 n] w (RetBytes w b A c r n) := by
  have hle : r.left ≤ r.l.length := Nat.sub_le _ _
  have ht : r.take n = ({ r with pos := r.pos + n }, some ((r.l.drop r.pos).take n)) := by unfold Rdr.take; rw [if_neg (by simpa using hc), if_neg (by omega)]
  have hbl : ((r.l.drop r.pos).take n).length = n := by unfold Rdr.left at hl; simp; omega
  obtain ⟨bs, hbs⟩ : ∃ bs, bs = (r.l.drop r.pos).take n := ⟨_, rfl⟩
  rw [← hbs] at ht hbl
  have HT := Lib.hid ht
  have HBL := Lib.hid hbl
  have HBS := Lib.hid hbs
  have HM := Lib.hid h
  have hn9 : n ≤ 140737488351232 := by omega
  clear ht hbl hbs h hc hl hle
  go_enter Tryd.func17, Tryd.ntmps17
  go_wp2_with fail
  refine (take_calls w b A c r HM.out h8 n hn9).mono ?_
  rintro e w1 ⟨hv, hm1, hg1⟩
  rw [HT.out] at hv hm1
  obtain ⟨A2, c2, rfl, hc2, hrb⟩ := hv
  have HM1 := Lib.hid hm1
  have HG1 := Lib.hid hg1
  have HR := Lib.hid hrb
  have hbw : Hid (b ≤ w1.heap.size) := Lib.hid <| by have := HM1.out.blk.lt; omega
  have H9 : Hid (bs.length ≤ 140737488351232) := Lib.hid <| by rw [HBL.out]; exact hn9
  clear hm1 hg1 hrb hc2
  go_wp2_with (at_builtin; refine wpList_app_bytes _ rfl _ _ rfl w1.heap.size none 0 [] _ rfl rfl (OB.nil _ _) A2 c2 bs _ rfl rfl HR.out (by have := H9.out; simp; omega) (Nat.le_refl _) ?_)
  intro A' c' L w2 HL ho hg _
  have hL : L = bs := HL.out
  subst hL
  have HO := Lib.hid ho
  have HG : Hid (w1.grownBy w2 (some b)) := Lib.hid (grown_none hg)
  have HB2 : Hid (Below w1.heap.size w1 w2) := (Below.refl _ _).grown hg (Nat.le_refl _) (fun k e => by cases e)
  clear HL ho hg
  go_wp2
  go_ret
  refine ⟨A', c', by rw [HBL.out]; rfl, ?_, HM1.out.below HB2.out HM1.out.blk.lt, HG1.out.trans HG.out⟩
  rw [← HBS.out]
  exact HO.out.mono HG1.out.size
theorem xor255 (x : UInt8) : Value.int .u8 (bits .xor .u8 (x.toNat : Int) 255) = bv (x ^^^ 255) := by
  have h1 : x.toNat < 256 := x.toNat_lt
  have h : bits .xor .u8 (x.toNat : Int) ((255 : Nat) : Int) = ((x.toNat ^^^ 255 : Nat) : Int) := by simpa using u8_xor_nat x.toNat 255 (by omega) (by omega)
  show Value.int .u8 (bits .xor .u8 (x.toNat : Int) ((255 : Nat) : Int)) = _
  rw [h, bv, UInt8.toNat_xor]
  rfl
set_option maxHeartbeats 4000000 in
theorem own_calls (w : World) (hd : Hdl w) (A : Option Addr) (c : Nat) (l : List UInt8) (h : RB w w.heap.size A l) (h8 : l.length ≤ 140737488351232) (n : Int) :
    Calls Tryd.prog 6 #[.slice A l.length c, .int .i64 n] w fun e w' => e = .returned (.bool true) ∧ Below w.heap.size w w' := by
  have HD := Lib.hid hd
  have HR0 := Lib.hid h
  clear hd h
  by_cases hn : n < 0 ∨ (l.length : Int) < n
  · have hn' : n < 0 ∨ (0 ≤ n ∧ (l.length : Int) < n) := by omega
    clear hn
    rcases hn' with hl | ⟨hl, hl2⟩
    all_goals
      go_enter Tryd.func6, Tryd.ntmps6
      go_wp2_with fail
      refine (awake_calls w HD.out).mono ?_
      rintro e w2 ⟨rfl, hb2⟩
      have HB2 := Lib.hid hb2
      clear hb2
      go_wp2
      go_ret
      exact ⟨rfl, HB2.out⟩
  · obtain ⟨k, rfl⟩ : ∃ k : Nat, n = k := ⟨n.toNat, by omega⟩
    have hk : k ≤ l.length := by omega
    clear hn
    go_enter Tryd.func6, Tryd.ntmps6
    go_wp2_with fail
    refine (read2_calls w _ A c l HR0.out (Nat.le_refl _) h8).mono ?_
    rintro e w1 ⟨b1, A1, c1, rfl, hm1, hbb1, _, hb1⟩
    have HM1 := Lib.hid hm1
    have HB1 := Lib.hid hb1
    have HL1 := Lib.hid hbb1
    have HR1 := Lib.hid (HR0.out.below hb1)
    clear hm1 hb1 hbb1
    go_wp2_with fail
    refine (read2_calls w1 _ A c l HR1.out HB1.out.size h8).mono ?_
    rintro e w2 ⟨b2, A2, c2, rfl, hm2, hbb2, hA2, hb2⟩
    have HM2 := Lib.hid hm2
    have HB2 : Hid (Below w.heap.size w w2) := HB1.out.trans (hb2.mono HB1.out.size)
    have HM12 : Hid (RdM w2 b1 A1 c1 ⟨l, 0, 0⟩) := HM1.out.below hb2 HM1.out.blk.lt
    have HL2 : Hid (w.heap.size ≤ b2) := Lib.hid (Nat.le_trans HB1.out.size hbb2)
    have HNE : Hid (b1 < b2) := Lib.hid (Nat.lt_of_lt_of_le HM1.out.blk.lt hbb2)
    have HA2 : Hid (∀ g, A2.map (·.block) = some g → b1 < g) := Lib.hid fun g hg => Nat.lt_of_lt_of_le HM1.out.blk.lt (hA2 g hg)
    clear hm2 hb2 hbb2 hA2 HM1
    go_wp2_with fail
    refine (bytes_calls w2 b1 A1 c1 ⟨l, 0, 0⟩ HM12.out h8 k rfl hk).mono ?_
    rintro e w3 ⟨X, cx, rfl, ho3, hm3, hg3⟩
    have ho3' : OB w3 w2.heap.size X cx (l.take k) := ho3
    have HO3 := Lib.hid ho3'
    have HM13 : Hid (RdM w3 b1 A1 c1 ⟨l, 0 + k, 0⟩) := Lib.hid hm3
    have HM23 : Hid (RdM w3 b2 A2 c2 ⟨l, 0, 0⟩) := Lib.hid <| rdm_other HM2.out hg3 (Nat.ne_of_lt HNE.out) (fun g hg => Nat.ne_of_lt (HA2.out g hg))
    have HS23 : Hid (w2.heap.size ≤ w3.heap.size) := Lib.hid hg3.size
    have HB3 : Hid (Below w.heap.size w w3) := Lib.hid <| HB2.out.grown hg3 HB2.out.size (fun k e => by injection e with e; have := HL1.out; omega)
    have HLT1 : Hid (b1 < w2.heap.size) := Lib.hid HM12.out.blk.lt
    have HLT2 : Hid (b2 < w2.heap.size) := Lib.hid HM2.out.blk.lt
    clear ho3 ho3' hm3 hg3 HM2 HM12 HA2
    have hsz9 : (k : Int) ≤ 140737488351232 := by omega
    go_wp2
    go_loopw [8] (fun s8 wr => ∃ (i : Nat) (L : List UInt8), i ≤ k ∧ s8 = .int .i64 i ∧ Hid (L.length = k) ∧ OB wr w2.heap.size X cx L ∧ Below w2.heap.size w3 wr) (fun s8 _ => k - (intOf s8).toNat)
    case atStart => exact ⟨0, l.take k, Nat.zero_le _, rfl, Lib.hid (by simp; omega), HO3.out, Below.refl _ _⟩
    case round =>
      obtain ⟨i, L, hi, rfl, HL, hown, hbel⟩ := hrel
      by_cases hlt : i < k
      · have hiL : i < L.length := by rw [HL.out]; exact hlt
        obtain ⟨g, hX, hge, hgl, hcell, hfree⟩ := hown.at hiL
        subst hX
        have HO := Lib.hid hown
        have HI := Lib.hid hiL
        obtain ⟨x, hx⟩ : ∃ x, x = (L[i]'hiL).toNat := ⟨_, rfl⟩
        have hxv := xor255 (L[i]'hiL)
        rw [← hx] at hxv
        rw [← hx] at hcell
        have hx9 : x < 256 := by rw [hx]; exact (L[i]'hiL).toNat_lt
        obtain ⟨L', hL'⟩ : ∃ L', L' = L.set i (L[i]'hiL ^^^ 255) := ⟨_, rfl⟩
        have hs := HO.out.set i (L[i]'hiL ^^^ 255) hxv
        rw [← hL'] at hs
        have HS := Lib.hid hs
        have HLS : Hid (L'.length = k) := Lib.hid <| by rw [hL', List.length_set]; exact HL.out
        have HB : Hid (Below w2.heap.size w3 (wr.setCell ⟨g, i, none⟩ (.int .u8 (bits .xor .u8 (x : Int) 255)))) := Lib.hid (hbel.setCell hge _)
        clear hx hxv hown hs hL' hiL hbel hge
        go_wp2
        go_roundw
        case rel => exact ⟨i + 1, L', by omega, by go_num, HLS, HS.out, HB.out⟩
        case measure => simp [intOf]; omega
      · have HO := Lib.hid hown
        have HB := Lib.hid hbel
        have HM1 : Hid (RdM wr b1 A1 c1 ⟨l, 0 + k, 0⟩) := HM13.out.below hbel HLT1.out
        have HM2 : Hid (RdM wr b2 A2 c2 ⟨l, 0, 0⟩) := HM23.out.below hbel HLT2.out
        have HBW : Hid (Below w.heap.size w wr) := HB3.out.trans (hbel.mono HB2.out.size)
        clear hown hbel HO HB HM13 HM23 HB3 HL HO3 HS23
        clear HLT1 HLT2
        go_wp2_with fail
        refine (bytes_calls wr b2 A2 c2 ⟨l, 0, 0⟩ HM2.out h8 k rfl hk).mono ?_
        rintro e w5 ⟨Y, cy, rfl, ho5, hm5, hg5⟩
        obtain ⟨y, hy⟩ : ∃ y, y = l.take k := ⟨_, rfl⟩
        have ho5' : OB w5 wr.heap.size Y cy (l.take k) := ho5
        rw [← hy] at ho5'
        have hyl : k = y.length := by rw [hy]; simp; omega
        have HY := Lib.hid hy
        have HYL := Lib.hid hyl
        have HO5 := Lib.hid ho5'.rb
        have HM25 : Hid (RdM w5 b2 A2 c2 ⟨l, 0 + k, 0⟩) := Lib.hid hm5
        have HM15 : Hid (RdM w5 b1 A1 c1 ⟨l, 0 + k, 0⟩) := Lib.hid <| HM1.out.grown hg5 (fun k e => by injection e with e; rw [← e]; exact HNE.out)
        have HB5 : Hid (Below w.heap.size w w5) := Lib.hid <| HBW.out.grown hg5 HBW.out.size (fun k e => by injection e with e; rw [← e]; exact HL2.out)
        have hown5 := OB.new w5 (base := w5.heap.size) (Nat.le_refl _) [] (by simp)
        have HW5 := Lib.hid hown5
        have hm9 : y.length ≤ 140737488351232 := by omega
        have HM9 := Lib.hid hm9
        have HBW5 : Hid (w.heap.size ≤ w5.heap.size) := Lib.hid HB5.out.size
        obtain ⟨m, hm⟩ : ∃ m, m = l.length - k := ⟨_, rfl⟩
        have hmk : (l.length : Int) - (k : Int) = (m : Int) := by omega
        have HMK := Lib.hid hmk
        have HME := Lib.hid hm
        clear hy hyl ho5 ho5' hm5 hg5 hown5 HM1 HM2 HBW hm9 hmk hm
        go_wp2_with (at_builtin; refine wpList_app_bytes _ rfl _ _ rfl w5.heap.size (some ⟨w5.heap.size, 0, none⟩) 0 [] _ rfl rfl HW5.out Y cy y _ rfl HYL.out (HO5.out.below ((Below.refl _ _).alloc (Nat.le_refl _) _)) (by have := HM9.out; simp; omega) (by simp) ?_)
        intro A6 c6 L6 w6 HL6 ho6 hg6 _
        have HO6 := Lib.hid ho6
        have hb56 : Below w5.heap.size w5 w6 := ((Below.refl w5.heap.size w5).alloc (Nat.le_refl _) _).grown hg6 (by simp) (fun k e => by simp at e; omega)
        have HB6 : Hid (Below w.heap.size w w6) := HB5.out.trans (hb56.mono HB5.out.size)
        have HM26 : Hid (RdM w6 b2 A2 c2 ⟨l, 0 + k, 0⟩) := HM25.out.below hb56 HM25.out.blk.lt
        have HM16 : Hid (RdM w6 b1 A1 c1 ⟨l, 0 + k, 0⟩) := HM15.out.below hb56 HM15.out.blk.lt
        have HLT : Hid (b2 < w5.heap.size) := Lib.hid HM25.out.blk.lt
        have HS6 : Hid (w5.heap.size ≤ w6.heap.size) := Lib.hid hb56.size
        clear ho6 hg6 hb56 HM25 HM15 HB5 HW5 HO5
        have hmk := HMK.out
        go_wp2_with fail
        clear hmk
        refine (bytes_calls w6 b2 A2 c2 ⟨l, 0 + k, 0⟩ HM26.out h8 m rfl (by show m ≤ l.length - (0 + k); have := HME.out; omega)).mono ?_
        rintro e w7 ⟨Z, cz, rfl, ho7, hm7, hg7⟩
        obtain ⟨z, hz⟩ : ∃ z, z = (l.drop (0 + k)).take m := ⟨_, rfl⟩
        have ho7' : OB w7 w6.heap.size Z cz ((l.drop (0 + k)).take m) := ho7
        rw [← hz] at ho7'
        have hzl : m = z.length := by rw [hz]; have := HME.out; simp; omega
        have HZ := Lib.hid hz
        have HZL := Lib.hid hzl
        have HO7 := Lib.hid ho7'.rb
        have HW7 : Hid (OB w7 w5.heap.size A6 c6 L6) := Lib.hid <| HO6.out.kept hg7 (by
          cases hA : A6 with
          | none => exact .inl rfl
          | some a =>
            refine .inr fun e => ?_
            have := HO6.out.lt a.block (by rw [hA]; rfl)
            have h2 := HLT.out
            injection e with e
            have h3 : a.block = b2 := e
            omega)
        have HM27 : Hid (RdM w7 b2 A2 c2 ⟨l, 0 + k + m, 0⟩) := Lib.hid hm7
        have HM17 : Hid (RdM w7 b1 A1 c1 ⟨l, 0 + k, 0⟩) := Lib.hid <| HM16.out.grown hg7 (fun k e => by injection e with e; rw [← e]; exact HNE.out)
        have HB7 : Hid (Below w.heap.size w w7) := Lib.hid <| HB6.out.grown hg7 HB6.out.size (fun k e => by injection e with e; rw [← e]; exact HL2.out)
        have HS7 : Hid (w5.heap.size ≤ w7.heap.size) := Lib.hid (Nat.le_trans HS6.out hg7.size)
        have H9 : Hid (L6.length + z.length ≤ 140737488355328) := Lib.hid <| by rw [HL6.out, ← HZL.out, HME.out]; have := HYL.out; simp; omega
        clear hz hzl ho7 ho7' hm7 hg7 HM26 HM16 HO6 HB6
        go_wp2_with (at_builtin; refine wpList_app_bytes _ rfl _ _ rfl w5.heap.size A6 c6 L6 _ rfl rfl HW7.out Z cz z _ rfl HZL.out HO7.out H9.out HS7.out ?_)
        intro A8 c8 L8 w8 HL8 ho8 hg8 _
        have hbl8 : Below w5.heap.size w7 w8 := (Below.refl _ _).grown hg8 HS7.out (fun k hk => (HW7.out.lt k hk).1)
        have HO8 := Lib.hid ho8.rb
        have HLE : Hid (L8 = l) := Lib.hid <| by
          rw [HL8.out, HL6.out, HY.out, HZ.out, Nat.zero_add, HME.out, List.take_of_length_le (l := l.drop k) (by simp), List.take_append_drop]
        have HB8 : Hid (Below w.heap.size w w8) := Lib.hid <| HB7.out.trans (hbl8.mono HBW5.out)
        have HM28 : Hid (RdM w8 b2 A2 c2 ⟨l, 0 + k + m, 0⟩) := HM27.out.below hbl8 HLT.out
        have HM18 : Hid (RdM w8 b1 A1 c1 ⟨l, 0 + k, 0⟩) := HM17.out.below hbl8 (Nat.lt_trans HNE.out HLT.out)
        have HD8 : Hid (Hdl w8) := HD.out.below HB8.out HD.out.lt
        clear ho8 hg8 hbl8 HM27 HM17 HW7 HO7 HB7 HL8 HL6 HY HZ H9
        go_wp2_with fail
        refine (awake_calls w8 HD8.out).mono ?_
        rintro e w9 ⟨rfl, hb9⟩
        have HB9 : Hid (Below w.heap.size w w9) := HB8.out.trans (hb9.mono HB8.out.size)
        have HO9 := Lib.hid (HO8.out.below hb9)
        have HR9 := Lib.hid (HR0.out.below HB9.out)
        have HM29 : Hid (RdM w9 b2 A2 c2 ⟨l, 0 + k + m, 0⟩) := HM28.out.below hb9 HM28.out.blk.lt
        have HM19 : Hid (RdM w9 b1 A1 c1 ⟨l, 0 + k, 0⟩) := HM18.out.below hb9 HM18.out.blk.lt
        clear hb9 HM28 HM18 HO8 HB8 HD8
        go_wp2_with fail
        refine (same_calls w9 _ A8 c8 L8 HO9.out _ A c l HR9.out).mono ?_
        rintro e w10 ⟨rfl, rfl⟩
        rw [decide_eq_true HLE.out]
        go_wp2_with fail
        refine (left_calls w9 b1 A1 c1 ⟨l, 0 + k, 0⟩ HM19.out h8).mono ?_
        rintro e w10 ⟨rfl, rfl⟩
        rw [show (Rdr.left ⟨l, 0 + k, 0⟩) = m by rw [HME.out]; unfold Rdr.left; simp]
        have hmk := HMK.out
        go_wp2_with fail
        refine (end_calls w9.drew b2 A2 c2 ⟨l, 0 + k + m, 0⟩ (RdM.drew HM29.out) h8).mono ?_
        rintro e w11 ⟨⟨v, rfl, hv⟩, hb11⟩
        have hfin : Rdr.fin ⟨l, 0 + k + m, 0⟩ = none := by
          unfold Rdr.fin Rdr.left
          have := HME.out
          simp
          omega
        rw [hfin] at hv
        have hv' : v = .nilIface := hv
        subst hv'
        have HB11 : Hid (Below w.heap.size w w11) := HB9.out.drew.trans (hb11.mono HB9.out.size)
        clear hb11 hv
        go_wp2
        go_ret
        exact ⟨rfl, HB11.out⟩
end Go.Proofs.YtpbalgnfeabhgaaDoor
