/- Bundle 9 of the texts AudA, AudB, LoadSw, AudC, AudD, AudE, AudF, LdA, LdB. -/
import Derived.Test.YtjfpoahmjgeogaaGreatDoorIc8
import Derived.Test.YtjfpoahmjgeogaaGreatDoorIc4
import Derived.Test.YtjfpoahmjgeogaaGreatDoorIc1
import Derived.Lib.MinMax
/- audit: valid, the closure that puts, the sector of an entry. -/
namespace Nac.Img
def ecells (x : Ent) : List Go.Value := [.int .i64 (x.kind : Int), .int .i64 (x.part : Int), .int .u32 (x.ver : Int), .int .i64 (x.code : Int)]
end Nac.Img
namespace Go.Proofs.YtjfpoahmjgeogaaGreatDoor
open Go.RowKit Nac Nac.Img Nac.Sha Nac.Crc
theorem sEnt : SInfo 105 4 := ⟨by kernel_rfl, _, Tryz.underlying105, rfl⟩
set_option maxRecDepth 100000 in
set_option maxHeartbeats 4000000 in
theorem avalid_calls (w : World) (x : Ent) : Calls Tryz.prog 68 #[.agg (ecells x).toArray] w (fun e w' => e = .returned (.bool x.okB) ∧ Below w.heap.size w w') := by
  obtain ⟨k, p, v, d⟩ := x
  have HOK : Hid ((⟨k, p, v, d⟩ : Ent).okB = decide (1 ≤ k ∧ k ≤ 4 ∧ p < 8 ∧ d ≤ 255)) := Lib.hid rfl
  obtain ⟨cs, hcs⟩ : ∃ cs, cs = ecells ⟨k, p, v, d⟩ := ⟨_, rfl⟩
  have HCS := Lib.hid hcs
  rw [← hcs]
  clear hcs
  have z1 : (0 : Int) ≤ (p : Int) := by omega
  have z2 : (0 : Int) ≤ (d : Int) := by omega
  rcases (by omega : ¬ (1 : Int) ≤ (k : Int) ∨ ((1 : Int) ≤ (k : Int) ∧ ¬ (k : Int) ≤ 4) ∨ ((1 : Int) ≤ (k : Int) ∧ (k : Int) ≤ 4 ∧ ¬ (p : Int) < 8) ∨ ((1 : Int) ≤ (k : Int) ∧ (k : Int) ≤ 4 ∧ (p : Int) < 8 ∧ ¬ (d : Int) ≤ 255) ∨ ((1 : Int) ≤ (k : Int) ∧ (k : Int) ≤ 4 ∧ (p : Int) < 8 ∧ (d : Int) ≤ 255)) with q1 | ⟨q1, q2⟩ | ⟨q1, q2, q3⟩ | ⟨q1, q2, q3, q4⟩ | ⟨q1, q2, q3, q4⟩
  all_goals
    go_enter Tryz.func68, Tryz.ntmps68
    go_wp2_with (((with_reducible show wpList _ _ _ (Oper.mk _ (Op.box 105 _) _ _ _ _ :: _) _ _); refine wpList_boxS rfl _ rfl cs (by rfl) ?_))
    intro w1 hb1 hg1 hs1
    have HG1 := Lib.hid hg1
    rw [HCS.out] at hb1
    have c0 : w1.cell? ⟨w.heap.size, 0, none⟩ = some (.int .i64 (k : Int)) := hb1.cell (j := 0) rfl
    have c1 : w1.cell? ⟨w.heap.size, 1, none⟩ = some (.int .i64 (p : Int)) := hb1.cell (j := 1) rfl
    have c3 : w1.cell? ⟨w.heap.size, 3, none⟩ = some (.int .i64 (d : Int)) := hb1.cell (j := 3) rfl
    clear hb1 hg1 hs1
    go_wp2_with fail
    go_ret
    exact ⟨by rw [HOK.out]; congr 1; first | (simp <;> omega) | (show Value.bool (decide ((d : Int) ≤ 255)) = _; congr 1; rw [Bool.eq_iff_iff, decide_eq_true_iff, decide_eq_true_iff]; omega), gbelow HG1.out⟩
def PutS (w0 : World) (b5 : Nat) (l : List UInt8) (w : World) : Prop := ∃ A c, Blk w b5 [.slice A l.length c] ∧ OB w w0.heap.size A c l ∧ A.map (·.block) ≠ some b5 ∧ Below w0.heap.size w0 w ∧ w0.heap.size ≤ b5
def RetAp (w0 : World) (b5 : Nat) (l : List UInt8) (e : Ending) (w' : World) : Prop := e = .returned (.tuple #[]) ∧ PutS w0 b5 l w'
set_option maxRecDepth 100000 in
set_option maxHeartbeats 4000000 in
theorem aput_calls (w0 w : World) (b5 : Nat) (l : List UInt8) (v sz : Nat) (h : PutS w0 b5 l w) (h1 : 1 ≤ sz) (h8 : sz ≤ 8) (hl : l.length ≤ 1000) :
    Calls Tryz.prog 92 #[.int .u64 (v : Int), .int .i64 (sz : Int), .pointer (some ⟨b5, 0, none⟩)] w (RetAp w0 b5 (l ++ lbs v sz)) := by
  obtain ⟨A, c, hb, ho, hn, hbel, hle⟩ := h
  obtain ⟨L2, hL2⟩ : ∃ L, L = lbs v sz := ⟨_, rfl⟩
  have HL2 : Hid (L2.length ≤ 8) := Lib.hid (by rw [hL2, lbs_length]; exact h8)
  have HB := Lib.hid hb
  have HO := Lib.hid ho
  have HN := Lib.hid (And.intro hn (And.intro hbel hle))
  have HL := Lib.hid hl
  have C5 : Hid (∀ w', Below w.drew.heap.size w.drew w' → w'.cell? ⟨b5, 0, none⟩ = some (.slice A l.length c)) := Lib.hid fun w' hbb => (hb.keep (hbb.block b5 hb.lt)).cell rfl
  have PC : Hid (∀ w', Below w.drew.heap.size w.drew w' → Calls Tryz.prog 91 #[.int .u64 (v : Int), .int .i64 (sz : Int)] w' fun e w'' => ∃ u, e = .returned u ∧ RByc L2 u w'' ∧ Below w'.heap.size w' w'') := Lib.hid fun w' _ => (put_ret w' v sz h1 h8).mono fun e w'' hh => by
    obtain ⟨A2, c2, rfl, h2, h3⟩ := hh
    rw [← hL2] at h2 ⊢
    exact ⟨_, rfl, ⟨A2, c2, rfl, h2.len, h2.rb⟩, h3⟩
  rw [← hL2]
  clear hb ho hn hbel hle h1 h8 hl hL2
  go_enter Tryz.func92, Tryz.ntmps92
  go_wp2_with fail
  refine region_tails 4 (fun ix9 => ([.is (.slice A l.length c), .is (.int .u64 (v : Int)), .is (.int .i64 (sz : Int)), byc L2] : List VD).getD ix9 (.is undef)) [some 5, some 6, some 7, some 8] (by kernel_rfl) (by kernel_rfl) (by kernel_rfl) (by kernel_rfl) rfl (fun ii hii => ?_) ?_
  · match ii, hii with
    | 0, _ => exact mstep_pure rfl (mwant_none rfl) (fun aa ww cc => ⟨.slice A l.length c, by have e0 : aa.tmps.getD 2 undef = .pointer (some ⟨b5, 0, none⟩) := (cc.orig 2 (by kernel_rfl)).trans rfl; have q := C5.out _ cc.below; simp only [execOp, Act.eval]; go_simp, rfl⟩)
    | 1, _ => exact mstep_first rfl (mwant_none rfl) 0 (Or.inl rfl) (by kernel_rfl) (fun _ _ => rfl)
    | 2, _ => exact mstep_first rfl (mwant_none rfl) 1 (Or.inl rfl) (by kernel_rfl) (fun _ _ => rfl)
    | 3, _ => exact mstep_call rfl (mwant_none rfl) _ _ _ rfl (enters_of Tryz.func91 (by kernel_rfl) rfl) (fun aa ww cc => by have e0 : aa.tmps.getD 6 undef = .int .u64 (v : Int) := cc.slot 1 6 (by kernel_rfl) rfl; have e1 : aa.tmps.getD 7 undef = .int .i64 (sz : Int) := cc.slot 2 7 (by kernel_rfl) rfl; simp only [List.map_toArray, List.map_cons, List.map_nil, Act.eval, e0, e1]; exact PC.out ww cc.below)
    | n + 4, h => exact absurd h (by show ¬ (n + 4 < 4); omega)
  · intro VV w5 hlen hb5 hok
    match VV, hlen with
    | [v0, v1, v2, v3], _ =>
      obtain rfl : v0 = .slice A l.length c := hok 0 5 rfl
      obtain rfl : v1 = .int .u64 (v : Int) := hok 1 6 rfl
      obtain rfl : v2 = .int .i64 (sz : Int) := hok 2 7 rfl
      have p3 := hok 3 8 rfl
      obtain ⟨A2, c2, rfl, hc2, hr2⟩ : RByc L2 v3 w5 := p3
      have hb5' : Below w.heap.size w w5 := ⟨hb5.os, hb5.tape, hb5.output, hb5.size, hb5.block⟩
      have HB5 : Hid (Blk w5 b5 [.slice A l.length c]) := Lib.hid (HB.out.below hb5' HB.out.lt)
      have HO5 : Hid (OB w5 w0.heap.size A c l) := Lib.hid (HO.out.below hb5' (Nat.le_refl _))
      have HE5 : Hid (Below w0.heap.size w0 w5) := Lib.hid (HN.out.2.1.trans (hb5'.mono HN.out.2.1.size))
      have HR2 := Lib.hid hr2
      clear hb5 hb5' hok hc2 hr2 C5 PC HB HO
      simp only [List.zip_cons_cons, List.zip_nil_right, putsL]
      go_simp
      go_wp2_with (((with_reducible show wpList _ _ _ (Oper.mk _ (Op.call (Call.mk (Callee.builtin Builtin.append) _ _)) _ _ _ _ :: _) _ _); refine wpList_app_bytes _ rfl _ _ rfl w0.heap.size A c l l.length rfl rfl HO5.out A2 c2 L2 L2.length (by rfl) rfl HR2.out (by have := HL2.out; have := HL.out; omega) HE5.out.size ?_))
      intro A6 c6 l6 w6 hl6 ho6 hg6 hx6
      have HB6 : Hid (Blk w6 b5 [.slice A l.length c]) := Lib.hid (HB5.out.grown hg6 HN.out.1)
      have HO6 : Hid (OB w6 w0.heap.size A6 c6 l6 ∧ A6.map (·.block) ≠ some b5 ∧ Below w0.heap.size w0 w6) := Lib.hid ⟨ho6, by
        rcases hx6 with e | ⟨a, rfl, e⟩
        · rw [e]; exact HN.out.1
        · intro e2
          have e2 : a.block = b5 := by simpa using e2
          have := HB5.out.lt
          omega, below_app HE5.out hg6 HO5.out HE5.out.size (Nat.le_refl _)⟩
      have HL6 := hl6
      clear hl6 ho6 hg6 hx6 HB5 HO5 HE5 HR2
      go_wp2_with (((with_reducible show wpList _ _ _ (Oper.mk _ (Op.store 36 _ _) _ _ _ _ :: _) _ _); refine wpList_storeB rfl 36 _ _ rfl b5 0 _ (.slice A6 l6.length c6) (by show 0 < 1; decide) rfl (by rfl) HB6.out (by kernel_rfl) rfl ?_))
      intro w7 hb7 hg7 hs7
      have HR : Hid (PutS w0 b5 (l ++ L2) w7) := Lib.hid (by
        rw [← HL6.out]
        exact ⟨A6, c6, hb7.out, HO6.out.1.kept hg7.out (.inr HO6.out.2.1), HO6.out.2.1, HO6.out.2.2.grown hg7.out HO6.out.2.2.size (fun j e => by injection e with e; have := HN.out.2.2; omega), HN.out.2.2⟩)
      clear hb7 hg7 hs7 HB6 HO6
      go_wp2_with fail
      exact bodyPost_ret (v := .tuple #[]) (by simp [results, Tryz.results92, go_sem]) rfl ⟨rfl, HR.out⟩
end Go.Proofs.YtjfpoahmjgeogaaGreatDoor
/- audit: the sector of an entry. -/
namespace Go.Proofs.YtjfpoahmjgeogaaGreatDoor
open Go.RowKit Nac Nac.Img Nac.Sha Nac.Crc
section
variable {w : World} {ops : Array Oper} {rest : List Oper} {o : Oper} {a : Act} {Q : Exit → Act → World → Prop} {T : TypeId}
theorem wpList_byte1O (hg : o.guard = Option.none) (x : Operand) (hop : o.op = .buildSlice 36 1 #[(0, x)]) (v : UInt8) (hx : a.eval x = bv v) (base : Nat) (hb : base ≤ w.heap.size)
    (hK : ∀ w', OB w' base (some ⟨w.heap.size, 0, none⟩) 1 [v] → w.grownBy w' none → w'.heap.size = w.heap.size + 1 → wpList Tryz.prog ops Q rest (a.put o.dst (.slice (some ⟨w.heap.size, 0, none⟩) 1 1)) w') : wpList Tryz.prog ops Q (o :: rest) a w :=
  wpList_plain hg fun _ hk => by
    unfold Oper.wp execOp
    have e : (#[(0, x)] : Array (Nat × Operand)).map (fun p => (p.1, a.eval p.2)) = #[(0, .int .u8 (v.toNat : Int))] := by simp [hx, bv]
    simp only [hop, e, Sem.run_bind, build1_byte w (v.toNat : Int), Result.andThen_ok]
    exact hk _ _ (hK _ (OB.new w hb [v] (by simp)) (World.grownBy_alloc w _ none) (by simp))
theorem wpList_makeZ {E : TypeId} {z : Value} {bytes : Nat} (hu : Tryz.prog.underlying T = some (.slice E)) (hinfo : (Tryz.prog.info? E).map (fun i => (i.zero, i.size, i.bytes)) = some (some z, 1, bytes)) (hz : z.cells = #[z]) (hby : bytes ≤ 32)
    (hg : o.guard = Option.none) (l c : Operand) (hop : o.op = Op.makeSlice T l c) (n : Nat) (hn : n ≤ 1000000) (hl : a.eval l = .int .i64 (n : Int)) (hc : a.eval c = .int .i64 (n : Int)) (zs : List Value) (hzs : zs = List.replicate n z)
    (hK : ∀ w', Blk w' w.heap.size zs → w.grownBy w' none → w'.heap.size = w.heap.size + 1 → wpList Tryz.prog ops Q rest (a.put o.dst (.slice (some ⟨w.heap.size, 0, none⟩) n n)) w') : wpList Tryz.prog ops Q (o :: rest) a w := by
  subst hzs
  exact wpList_make1 hu hinfo hz hby hg l c hop n hn hl hc hK
theorem wpList_alloc1 (z : Value) (hz : ((Tryz.prog.info? T).bind (·.zero)) = some z) (h1 : z.cells = #[z]) (hg : o.guard = none) (hop : o.op = .alloc T)
    (h : ∀ w', Blk w' w.heap.size [z] → w.grownBy w' none → w'.heap.size = w.heap.size + 1 → wpList Tryz.prog ops Q rest (a.put o.dst (.pointer (some ⟨w.heap.size, 0, none⟩))) w') : wpList Tryz.prog ops Q (o :: rest) a w := by
  refine wpList_plain hg fun K hK => ?_
  have hz : (zeroValue T).run Tryz.prog w = .ok z w := by
    cases hi : Tryz.prog.info? T with
    | none => simp [hi] at hz
    | some i =>
    simp [hi] at hz
    simp [zeroValue, typeInfo, hi, hz]
  have hr : (Instr.alloc T true (.tuple #[])).run Tryz.prog w = .ok (.pointer (some ⟨w.heap.size, 0, none⟩)) (w.alloc (.cells #[z] T)) := by
    simp [Instr.alloc, hz, newVar, newRow, h1]
  unfold Oper.wp execOp
  simp only [hop, Sem.run_bind, hr, Result.andThen_ok]
  exact hK _ _ (h _ (Blk.new w [z] T) (World.grownBy_alloc w _ none) (by simp))
end
theorem full_cells (l : List UInt8) (h : l.length ≤ 60) (zs : List Value) (hz : zs = List.replicate 60 (.int .u8 0)) : zs.take 0 ++ l.map bv ++ zs.drop (0 + l.length) = (full l).map bv := by
  have e : bv 0 = .int .u8 0 := rfl
  rw [full_eq h, List.map_append, List.map_replicate, e, hz, List.take_zero, List.nil_append, Nat.zero_add, List.drop_replicate]
theorem PutS.bel {w0 w : World} {b5 : Nat} {l : List UInt8} (h : PutS w0 b5 l w) : Below w0.heap.size w0 w := by
  obtain ⟨A, c, _, _, _, h, _⟩ := h
  exact h
theorem sealed_img (l : List UInt8) : sealedB l = sealB l := rfl
set_option maxRecDepth 100000 in
set_option maxHeartbeats 8000000 in
theorem asector_calls (w : World) (hG : Gl w) (n : Nat) (x : Ent) (hn : n < 4294967296) (hok : x.okB = true) (hv : x.ver < 4294967296) : Calls Tryz.prog 69 #[.int .i64 (n : Int), .agg (ecells x).toArray] w (RetPut w (entSec n x)) := by
  have HG := Lib.hid hG
  have hmf : ∀ (fn : Fn) (first cap : Array Value) (w : World), (Instr.makeFunc fn first cap).run Tryz.prog w = .ok (.func fn first cap) w := fun _ _ _ _ => rfl
  obtain ⟨kd, pt, vr, cd⟩ := x
  have hx : 1 ≤ kd ∧ kd ≤ 4 ∧ pt < 8 ∧ cd ≤ 255 := of_decide_eq_true hok
  obtain ⟨P2, hP2⟩ : ∃ P, P = lbs n 4 := ⟨_, rfl⟩
  obtain ⟨P3, hP3⟩ : ∃ P, P = lbs kd 1 := ⟨_, rfl⟩
  obtain ⟨P4, hP4⟩ : ∃ P, P = lbs pt 1 := ⟨_, rfl⟩
  obtain ⟨P5, hP5⟩ : ∃ P, P = lbs vr 4 := ⟨_, rfl⟩
  obtain ⟨P6, hP6⟩ : ∃ P, P = lbs cd 1 := ⟨_, rfl⟩
  have HE : Hid (entSec n ⟨kd, pt, vr, cd⟩ = sealedB (full ([65] ++ P2 ++ P3 ++ P4 ++ P5 ++ P6))) := Lib.hid (by rw [hP2, hP3, hP4, hP5, hP6, sealed_img]; unfold entSec; simp)
  have HPL : Hid (P2.length = 4 ∧ P3.length = 1 ∧ P4.length = 1 ∧ P5.length = 4 ∧ P6.length = 1) := Lib.hid ⟨by rw [hP2]; exact lbs_length _ _, by rw [hP3]; exact lbs_length _ _, by rw [hP4]; exact lbs_length _ _, by rw [hP5]; exact lbs_length _ _, by rw [hP6]; exact lbs_length _ _⟩
  have vhr : vr < 4294967296 := hv
  have w1' : IntKind.u64.wrap (n : Int) = (n : Int) := by rw [IntKind.wrap_u64]; omega
  have w2' : IntKind.u64.wrap (kd : Int) = (kd : Int) := by rw [IntKind.wrap_u64]; omega
  have w3' : IntKind.u64.wrap (pt : Int) = (pt : Int) := by rw [IntKind.wrap_u64]; omega
  have w4' : IntKind.u64.wrap (vr : Int) = (vr : Int) := by rw [IntKind.wrap_u64]; omega
  have w5' : IntKind.u64.wrap (cd : Int) = (cd : Int) := by rw [IntKind.wrap_u64]; omega
  obtain ⟨E, hE⟩ : ∃ E, E = entSec n ⟨kd, pt, vr, cd⟩ := ⟨_, rfl⟩
  rw [← hE] at HE ⊢
  obtain ⟨xs, hxs⟩ : ∃ xs, xs = ecells ⟨kd, pt, vr, cd⟩ := ⟨_, rfl⟩
  have HXS := Lib.hid hxs
  rw [← hxs]
  clear hE hxs hx hok hv vhr hn hG
  go_enter Tryz.func69, Tryz.ntmps69
  go_wp2_with (((with_reducible show wpList _ _ _ (Oper.mk _ (Op.box 105 _) _ _ _ _ :: _) _ _); refine wpList_boxS rfl _ rfl xs (by rfl) ?_))
  intro w1 hb1 hg1 hs1
  obtain ⟨b3, hB3⟩ : ∃ b, b = w.heap.size := ⟨_, rfl⟩
  rw [← hB3] at hb1 ⊢
  have HB1 := Lib.hid hb1
  have HE1 : Hid (Below w.heap.size w w1) := Lib.hid (gbelow hg1)
  have KX : Hid (∀ w', Below w1.heap.size w1 w' → w'.cell? ⟨b3, 0, none⟩ = some (.int .i64 (kd : Int)) ∧ w'.cell? ⟨b3, 1, none⟩ = some (.int .i64 (pt : Int)) ∧ w'.cell? ⟨b3, 2, none⟩ = some (.int .u32 (vr : Int)) ∧ w'.cell? ⟨b3, 3, none⟩ = some (.int .i64 (cd : Int))) := Lib.hid fun w' hb => by
    have h := HB1.out.below hb HB1.out.lt
    rw [HXS.out] at h
    exact ⟨h.cell rfl, h.cell rfl, h.cell rfl, h.cell rfl⟩
  clear hb1 hg1 hs1 hB3
  go_wp2_with (((with_reducible show wpList _ _ _ (Oper.mk _ (Op.buildSlice 36 _ _) _ _ _ _ :: _) _ _); refine wpList_byte1O rfl _ rfl 65 rfl w1.heap.size (Nat.le_refl _) ?_))
  intro w2 ho2 hg2 hs2
  obtain ⟨g8, hg8⟩ : ∃ g, g = w1.heap.size := ⟨_, rfl⟩
  obtain ⟨A2, hA2⟩ : ∃ A : Option Addr, A = some ⟨g8, 0, none⟩ := ⟨_, rfl⟩
  rw [← hg8, ← hA2] at ho2
  rw [← hg8, ← hA2]
  have HO2 : Hid (OB w2 w1.heap.size A2 1 [65]) := Lib.hid (by rw [← hg8]; exact ho2)
  have HE2 : Hid (Below w1.heap.size w1 w2) := Lib.hid (gbelow hg2)
  have HA2 : Hid (A2.map (·.block) = some g8 ∧ g8 < w2.heap.size) := Lib.hid ⟨by rw [hA2]; rfl, by omega⟩
  clear ho2 hg2 hs2 hg8 hA2
  go_wp2_with (((with_reducible show wpList _ _ _ (Oper.mk _ (Op.alloc 36) _ _ _ _ :: _) _ _); refine wpList_alloc1 (.slice none 0 0) (by kernel_rfl) rfl rfl rfl ?_))
  intro w3 hb3 hg3 hs3
  obtain ⟨b5, hB5⟩ : ∃ b, b = w2.heap.size := ⟨_, rfl⟩
  rw [← hB5] at hb3 ⊢
  have HB3 := Lib.hid hb3
  have HO3 : Hid (OB w3 w1.heap.size A2 1 [65]) := Lib.hid (HO2.out.below (gbelow hg3) (Nat.le_refl _))
  have HE3 : Hid (Below w1.heap.size w1 w3) := Lib.hid (HE2.out.trans ((gbelow hg3).mono HE2.out.size))
  have HNE : Hid (A2.map (·.block) ≠ some b5 ∧ w1.heap.size ≤ b5) := Lib.hid ⟨by rw [HA2.out.1]; intro e; injection e with e; have := HA2.out.2; omega, by rw [hB5]; exact HE2.out.size⟩
  clear hb3 hg3 hs3 hB5 HO2 HE2 HA2
  go_wp2_with (((with_reducible show wpList _ _ _ (Oper.mk _ (Op.store 36 _ _) _ _ _ _ :: _) _ _); refine wpList_storeB rfl 36 _ _ rfl b5 0 _ (.slice A2 1 1) (by show 0 < 1; decide) rfl (by rfl) HB3.out (by kernel_rfl) rfl ?_))
  intro w4 hb4 hg4 hs4
  obtain ⟨l4, hl4⟩ : ∃ l : List UInt8, l = [65] := ⟨_, rfl⟩
  have HP4 : Hid (PutS w1 b5 l4 w4) := Lib.hid (by rw [hl4]; exact ⟨A2, 1, hb4.out, HO3.out.kept hg4.out (.inr HNE.out.1), HNE.out.1, HE3.out.grown hg4.out HE3.out.size (fun j e => by injection e with e; have := HNE.out.2; omega), HNE.out.2⟩)
  have HL4 := Lib.hid hl4
  have HLB4 : Hid (l4.length ≤ 100) := Lib.hid (by rw [hl4]; decide)
  have HLX4 : Hid (l4.length ≤ 1) := Lib.hid (by rw [hl4]; decide)
  clear hb4 hg4 hs4 hl4 HB3 HO3 HE3 HNE
  have HC : Hid (∀ (v sz : Nat) P, P = lbs v sz → 1 ≤ sz → sz ≤ 8 → ∀ w' l, PutS w1 b5 l w' → l.length ≤ 100 → Calls Tryz.prog 92 #[.int .u64 (v : Int), .int .i64 ((sz : Nat) : Int), .pointer (some ⟨b5, 0, none⟩)] w' (RetAp w1 b5 (l ++ P))) := Lib.hid fun v sz P hP h1 h8 w' l hp hl => by rw [hP]; exact aput_calls w1 w' b5 l v sz hp h1 h8 (by omega)
  have HC2 : Hid (∀ w' l, PutS w1 b5 l w' → l.length ≤ 100 → Calls Tryz.prog 92 #[.int .u64 (n : Int), .int .i64 4, .pointer (some ⟨b5, 0, none⟩)] w' (RetAp w1 b5 (l ++ P2))) := Lib.hid (HC.out n 4 P2 hP2 (by decide) (by decide))
  have HC3 : Hid (∀ w' l, PutS w1 b5 l w' → l.length ≤ 100 → Calls Tryz.prog 92 #[.int .u64 (kd : Int), .int .i64 1, .pointer (some ⟨b5, 0, none⟩)] w' (RetAp w1 b5 (l ++ P3))) := Lib.hid (HC.out kd 1 P3 hP3 (by decide) (by decide))
  have HC4 : Hid (∀ w' l, PutS w1 b5 l w' → l.length ≤ 100 → Calls Tryz.prog 92 #[.int .u64 (pt : Int), .int .i64 1, .pointer (some ⟨b5, 0, none⟩)] w' (RetAp w1 b5 (l ++ P4))) := Lib.hid (HC.out pt 1 P4 hP4 (by decide) (by decide))
  have HC5 : Hid (∀ w' l, PutS w1 b5 l w' → l.length ≤ 100 → Calls Tryz.prog 92 #[.int .u64 (vr : Int), .int .i64 4, .pointer (some ⟨b5, 0, none⟩)] w' (RetAp w1 b5 (l ++ P5))) := Lib.hid (HC.out vr 4 P5 hP5 (by decide) (by decide))
  have HC6 : Hid (∀ w' l, PutS w1 b5 l w' → l.length ≤ 100 → Calls Tryz.prog 92 #[.int .u64 (cd : Int), .int .i64 1, .pointer (some ⟨b5, 0, none⟩)] w' (RetAp w1 b5 (l ++ P6))) := Lib.hid (HC.out cd 1 P6 hP6 (by decide) (by decide))
  clear HC hP2 hP3 hP4 hP5 hP6
  go_wp2_with fail
  go_at_call 92
  with_reducible refine (HC2.out w4 l4 HP4.out HLB4.out).mono ?_
  rintro e w5 ⟨rfl, hp5⟩
  obtain ⟨l5, hl5⟩ : ∃ l, l = l4 ++ P2 := ⟨_, rfl⟩
  rw [← hl5] at hp5
  have HP5 := Lib.hid hp5
  have HL5 := Lib.hid hl5
  have HLB5 : Hid (l5.length ≤ 100) := Lib.hid (by rw [hl5, List.length_append]; have := HLX4.out; have := HPL.out; omega)
  have HLX5 : Hid (l5.length ≤ 5) := Lib.hid (by rw [hl5, List.length_append]; have := HLX4.out; have := HPL.out; omega)
  clear hp5 hl5 HP4
  have k0 := (KX.out w5 HP5.out.bel).1
  go_wp2_with fail
  go_at_call 92
  with_reducible refine (HC3.out w5 l5 HP5.out HLB5.out).mono ?_
  rintro e w6 ⟨rfl, hp6⟩
  obtain ⟨l6, hl6⟩ : ∃ l, l = l5 ++ P3 := ⟨_, rfl⟩
  rw [← hl6] at hp6
  have HP6 := Lib.hid hp6
  have HL6 := Lib.hid hl6
  have HLB6 : Hid (l6.length ≤ 100) := Lib.hid (by rw [hl6, List.length_append]; have := HLX5.out; have := HPL.out; omega)
  have HLX6 : Hid (l6.length ≤ 6) := Lib.hid (by rw [hl6, List.length_append]; have := HLX5.out; have := HPL.out; omega)
  clear hp6 hl6 HP5 k0
  have k1 := (KX.out w6 HP6.out.bel).2.1
  go_wp2_with fail
  go_at_call 92
  with_reducible refine (HC4.out w6 l6 HP6.out HLB6.out).mono ?_
  rintro e w7 ⟨rfl, hp7⟩
  obtain ⟨l7, hl7⟩ : ∃ l, l = l6 ++ P4 := ⟨_, rfl⟩
  rw [← hl7] at hp7
  have HP7 := Lib.hid hp7
  have HL7 := Lib.hid hl7
  have HLB7 : Hid (l7.length ≤ 100) := Lib.hid (by rw [hl7, List.length_append]; have := HLX6.out; have := HPL.out; omega)
  have HLX7 : Hid (l7.length ≤ 7) := Lib.hid (by rw [hl7, List.length_append]; have := HLX6.out; have := HPL.out; omega)
  clear hp7 hl7 HP6 k1
  have k2 := (KX.out w7 HP7.out.bel).2.2.1
  go_wp2_with fail
  go_at_call 92
  with_reducible refine (HC5.out w7 l7 HP7.out HLB7.out).mono ?_
  rintro e w8 ⟨rfl, hp8⟩
  obtain ⟨l8, hl8⟩ : ∃ l, l = l7 ++ P5 := ⟨_, rfl⟩
  rw [← hl8] at hp8
  have HP8 := Lib.hid hp8
  have HL8 := Lib.hid hl8
  have HLB8 : Hid (l8.length ≤ 100) := Lib.hid (by rw [hl8, List.length_append]; have := HLX7.out; have := HPL.out; omega)
  have HLX8 : Hid (l8.length ≤ 11) := Lib.hid (by rw [hl8, List.length_append]; have := HLX7.out; have := HPL.out; omega)
  clear hp8 hl8 HP7 k2
  have k3 := (KX.out w8 HP8.out.bel).2.2.2
  go_wp2_with fail
  go_at_call 92
  with_reducible refine (HC6.out w8 l8 HP8.out HLB8.out).mono ?_
  rintro e w9 ⟨rfl, hp9⟩
  obtain ⟨l9, hl9⟩ : ∃ l, l = l8 ++ P6 := ⟨_, rfl⟩
  rw [← hl9] at hp9
  have HP9 := Lib.hid hp9
  have HL9 := Lib.hid hl9
  have HLB9 : Hid (l9.length ≤ 100) := Lib.hid (by rw [hl9, List.length_append]; have := HLX8.out; have := HPL.out; omega)
  have HLX9 : Hid (l9.length ≤ 12) := Lib.hid (by rw [hl9, List.length_append]; have := HLX8.out; have := HPL.out; omega)
  clear hp9 hl9 HP8 k3
  obtain ⟨zs, hzs⟩ : ∃ zs, zs = List.replicate 60 (Value.int .u8 0) := ⟨_, rfl⟩
  have HZS := Lib.hid hzs
  have HZ60 : Hid (zs.length = 60) := Lib.hid (by rw [hzs]; rfl)
  clear hzs
  go_wp2_with (((with_reducible show wpList _ _ _ (Oper.mk _ (Op.makeSlice 36 _ _) _ _ _ _ :: _) _ _); refine wpList_makeZ Tryz.underlying36 Tryz.infoByte rfl (by decide) rfl _ _ rfl 60 (by decide) rfl rfl zs HZS.out ?_))
  intro w10 hb10 hg10 hs10
  obtain ⟨g10, hg10'⟩ : ∃ g, g = w9.heap.size := ⟨_, rfl⟩
  rw [← hg10'] at hb10 ⊢
  have HB10 := Lib.hid hb10
  obtain ⟨A9, c9, hb9, ho9, hn9, hbel9, hle9⟩ := HP9.out
  have hB10 := gbelow hg10
  have k5 : w10.cell? ⟨b5, 0, none⟩ = some (.slice A9 l9.length c9) := (hb9.below hB10 hb9.lt).cell rfl
  have HR9 : Hid (RB w10 w10.heap.size A9 l9) := Lib.hid ((ho9.rb.below hB10).mono hB10.size)
  have HE10 : Hid (Below w1.heap.size w1 w10 ∧ w1.heap.size ≤ g10) := Lib.hid ⟨hbel9.trans (hB10.mono hbel9.size), by rw [hg10']; exact hbel9.size⟩
  clear hb10 hg10 hs10 hg10' hb9 ho9 hn9 hbel9 hle9 hB10 HP9
  go_wp2_with (((with_reducible show wpList _ _ _ (Oper.mk _ (Op.call (Call.mk (Callee.builtin Builtin.copy) _ _)) _ _ _ _ :: _) _ _); refine wpList_copyR rfl _ _ rfl g10 0 60 60 zs A9 l9.length c9 l9 rfl (by rfl) rfl HB10.out (by have := HLX9.out; omega) (by rw [HZ60.out]; have := HLX9.out; omega) HR9.out ?_))
  intro w11 hb11 hg11
  obtain ⟨F, hF⟩ : ∃ F, F = full l9 := ⟨_, rfl⟩
  have HB11 : Hid (Blk w11 g10 (F.map bv)) := Lib.hid (by
    have := hb11.out
    have e : zs.take 0 ++ l9.map bv ++ zs.drop (0 + l9.length) = F.map bv := by
      rw [hF]
      exact full_cells l9 (by have := HLX9.out; omega) zs HZS.out
    rw [← e]
    simpa using this)
  have HE11 : Hid (Below w.heap.size w w11) := Lib.hid (HE1.out.trans ((HE10.out.1.grown hg11.out HE10.out.1.size (fun j e => by injection e with e; have := HE10.out.2; omega)).mono HE1.out.size))
  have HF60 : Hid (F.length = 60) := Lib.hid (by rw [hF]; exact full_len _)
  have HEF : Hid (E = sealedB F) := Lib.hid (by rw [HE.out, hF, HL9.out, HL8.out, HL7.out, HL6.out, HL5.out, HL4.out])
  have HSL : Hid (Calls Tryz.prog 93 #[.slice (some ⟨g10, 0, none⟩) 60 60] w11 (RetOB w11 (sealedB F))) := Lib.hid (by
    have hG := HG.out.below' HE11.out
    have := seal_calls w11 w11.heap.size (some ⟨g10, 0, none⟩) 60 F hG.nib (by have := hG.size; show 4 < _; omega) (fun _ => ⟨g10, 0, rfl, HB11.out.lt, fun j hj => by
      rw [Nat.zero_add]
      refine HB11.out.cell ?_
      rw [List.getElem?_map, List.getElem?_eq_getElem hj]
      rfl⟩) (Nat.le_refl _) (by rw [HF60.out]; decide)
    rw [HF60.out] at this
    exact this)
  clear hb11 hg11 hF HB10 HR9 HE10 k5
  go_wp2_with fail
  go_at_call 93
  with_reducible refine HSL.out.mono ?_
  rintro e w12 ⟨A12, c12, rfl, ho12, hb12⟩
  have HRES : Hid (RetPut w E (.returned (.slice A12 (sealedB F).length c12)) w12) := Lib.hid (by rw [HEF.out]; exact ⟨A12, c12, rfl, ho12.mono HE11.out.size, HE11.out.trans (hb12.mono HE11.out.size)⟩)
  clear ho12 hb12 HSL
  go_wp2_with fail
  go_ret
  exact HRES.out
end Go.Proofs.YtjfpoahmjgeogaaGreatDoor
/- A guarded load of a struct. -/
namespace Go.Proofs.YtjfpoahmjgeogaaGreatDoor
open Go.RowKit Nac
theorem wpList_loadSw {T : TypeId} {n : Nat} {w : World} {ops : Array Oper} {rest : List Oper} {o : Oper} {a : Act} {Q : Exit → Act → World → Prop} (hS : SInfo T n) (hw : Region.wanted o (yielded ops a.tmps) = true) (x : Operand) (hop : o.op = .load T x) (b : Nat) (cs : List Value) (hx : a.eval x = .pointer (some ⟨b, 0, none⟩)) (hb : Blk w b cs) (hl : cs.length = n)
    (h : wpList Tryz.prog ops Q rest (a.put o.dst (.agg cs.toArray)) w) : wpList Tryz.prog ops Q (o :: rest) a w := by
  unfold wpList
  rw [if_pos hw]
  refine Or.inl ?_
  unfold Oper.wp
  have e : (execOp a.eval o).run Tryz.prog w = .ok (.value (.agg cs.toArray)) w := by
    unfold execOp
    simp only [hop, hx, Instr.loadAt, Instr.sureAddr, Sem.run_bind, Sem.run_pure, Result.andThen_ok, run_loadS hS b cs hb hl]
  rw [e]
  exact h
end Go.Proofs.YtjfpoahmjgeogaaGreatDoor
/- audit: an entry is read of a sector. -/
namespace Nac.Img
open Nac.Crc
theorem openB_64 {l : List UInt8} (h : l.length = 64) : openB l = if good l = true then some (l.take 60) else none := by
  unfold openB
  rw [if_neg (by omega), h]
theorem entF_none {n : Nat} {l : List UInt8} (h : openB l = none) : entF n l = none := by
  unfold entF
  rw [h]
theorem entF_some {n : Nat} {l c : List UInt8} (h : openB l = some c) : entF n l = if (⟨le (cut c 5 1), le (cut c 6 1), le (cut c 7 4), le (cut c 11 1)⟩ : Ent).okB = true ∧ entSec n ⟨le (cut c 5 1), le (cut c 6 1), le (cut c 7 4), le (cut c 11 1)⟩ = l then some ⟨le (cut c 5 1), le (cut c 6 1), le (cut c 7 4), le (cut c 11 1)⟩ else none := by
  unfold entF
  rw [h]
def zEnt : Ent := ⟨0, 0, 0, 0⟩
end Nac.Img
namespace Go.Proofs.YtjfpoahmjgeogaaGreatDoor
open Go.RowKit Nac Nac.Img Nac.Sha Nac.Crc
theorem openG_64 {l : List UInt8} (h : l.length = 64) : Go.Proofs.YtjfpoahmjgeogaaGreatDoor.openB l = if good l = true then (l.take 60, 0) else ([], 8) := by
  unfold Go.Proofs.YtjfpoahmjgeogaaGreatDoor.openB
  rw [if_neg (by omega), h]
structure RdS (w0 w : World) (b2 rb b5 : Nat) (zs : List Value) (Ar : Option Addr) (cr : Nat) (r : Rdr) (cs : List Value) : Prop where
  rd : RdM w rb Ar cr r
  k5 : Blk w b5 cs
  k2 : Blk w b2 zs
  bel : Below w0.heap.size w0 w
  lt1 : w0.heap.size ≤ b2
  lt2 : b2 < rb
  lt3 : rb < b5
theorem RdS.num {w0 w w' : World} {b2 rb b5 cr : Nat} {zs : List Value} {Ar : Option Addr} {r r' : Rdr} {cs : List Value} (h : RdS w0 w b2 rb b5 zs Ar cr r cs) (hm : RdM w' rb Ar cr r') (hg : w.grownBy w' (some rb)) : RdS w0 w' b2 rb b5 zs Ar cr r' cs :=
  ⟨hm, h.k5.grown hg (fun e => by injection e with e; have := h.lt3; omega), h.k2.grown hg (fun e => by injection e with e; have := h.lt2; omega), h.bel.grown hg h.bel.size (fun j e => by injection e with e; have := h.lt1; have := h.lt2; omega), h.lt1, h.lt2, h.lt3⟩
theorem RdS.sto {w0 w w' : World} {b2 rb b5 cr : Nat} {zs : List Value} {Ar : Option Addr} {r : Rdr} {cs cs' : List Value} (h : RdS w0 w b2 rb b5 zs Ar cr r cs) (hb : Blk w' b5 cs') (hg : w.grownBy w' (some b5)) : RdS w0 w' b2 rb b5 zs Ar cr r cs' :=
  ⟨h.rd.grown hg (fun k e => by injection e with e; have := h.lt3; omega), hb, h.k2.grown hg (fun e => by injection e with e; have := h.lt2; have := h.lt3; omega), h.bel.grown hg h.bel.size (fun j e => by injection e with e; have := h.lt1; have := h.lt2; have := h.lt3; omega), h.lt1, h.lt2, h.lt3⟩
theorem zeroEnt : ((Tryz.prog.info? 105).bind (·.zero)) = some (.agg (ecells zEnt).toArray) := by kernel_rfl
theorem ecells_one (x : Ent) : ∀ v ∈ ecells x, v.oneCell' = true := fun v hv => by
  simp only [ecells, List.mem_cons, List.not_mem_nil, or_false] at hv
  rcases hv with rfl | rfl | rfl | rfl <;> rfl
def RetEn (w : World) (ok : Bool) (e : Ending) (w' : World) : Prop := ∃ x : Ent, e = .returned (.tuple #[.agg (ecells x).toArray, .bool ok]) ∧ Below w.heap.size w w'
set_option maxRecDepth 100000 in
set_option maxHeartbeats 16000000 in
theorem aentry_calls (w : World) (hG : Gl w) (n : Nat) (hn : n < 4294967296) (A : Option Addr) (c : Nat) (l : List UInt8) (h64 : l.length = 64) (hA : RB w w.heap.size A l) (hc : 64 ≤ c) :
    Calls Tryz.prog 56 #[.int .i64 (n : Int), .slice A 64 c] w (RetEn w (entF n l).isSome) := by
  have HG := Lib.hid hG
  have HA := Lib.hid hA
  have H64 := Lib.hid h64
  have HN := Lib.hid (And.intro hn hc)
  obtain ⟨zs, hzs⟩ : ∃ zs, zs = ecells zEnt := ⟨_, rfl⟩
  have HZS := Lib.hid hzs
  have ZM : Hid (((Tryz.prog.info? 105).bind (·.zero)) = some (.agg zs.toArray) ∧ zs.length = 4 ∧ ∀ v ∈ zs, v.oneCell' = true) := Lib.hid (by rw [hzs]; exact ⟨zeroEnt, rfl, ecells_one _⟩)
  have HBZ : Hid (∀ w, (Instr.build 105 #[]).run Tryz.prog w = .ok (.agg zs.toArray) w) := Lib.hid fun w => by rw [hzs]; exact run_build w _ _ _ (by kernel_rfl)
  have HOP : Hid (∀ w', Below w.heap.size w w' → Calls Tryz.prog 76 #[.slice A 64 c] w' (RetOpen w' l)) := Lib.hid fun w' hb => open_calls w' w'.heap.size A 64 c l h64.symm (hG.below' hb).nib ((hA.below hb).mono hb.size) (by omega) (by omega)
  have HOUT : Hid (∀ (w3 : World), entF n l = none → Below w.heap.size w w3 → RetEn w (entF n l).isSome (.returned (.tuple #[.agg zs.toArray, .bool false])) w3) := Lib.hid fun w3 h1 h2 => by rw [h1, hzs]; exact ⟨zEnt, rfl, h2⟩
  clear hG hA hzs h64 hn hc
  go_enter Tryz.func56, Tryz.ntmps56
  go_wp2_with (((with_reducible show wpList _ _ _ (Oper.mk (some 4) (Op.alloc 105) _ _ _ _ :: _) _ _); refine wpList_allocS _ ZM.out.1 rfl rfl ?_))
  intro w1 hb1 hg1 hs1
  obtain ⟨b2, hB2⟩ : ∃ b, b = w.heap.size := ⟨_, rfl⟩
  have HB2 := Lib.hid hB2
  rw [← hB2] at hb1 ⊢
  have HB1 := Lib.hid hb1
  have HE1 : Hid (Below w.heap.size w w1) := Lib.hid (gbelow hg1)
  clear hb1 hg1 hs1 hB2
  go_wp2_with fail
  go_at_call 76
  with_reducible refine (HOP.out w1 HE1.out).mono ?_
  rintro e w2 ⟨A2, c2, rfl, ho2, hb2⟩
  have HK2 : Hid (Blk w2 b2 zs) := Lib.hid (HB1.out.below hb2 HB1.out.lt)
  have HE2 : Hid (Below w.heap.size w w2) := Lib.hid (HE1.out.trans (hb2.mono HE1.out.size))
  cases hgd : good l with
  | false =>
    have HDO : Hid (entF n l = none) := Lib.hid (entF_none (by rw [openB_64 H64.out, if_neg (by rw [hgd]; decide)]))
    have e8 : Go.Proofs.YtjfpoahmjgeogaaGreatDoor.openB l = ([], 8) := by rw [openG_64 H64.out, if_neg (by rw [hgd]; decide)]
    rw [e8]
    clear ho2 hb2 HOP HB1 HE1 hgd e8
    go_wp2_with (first | ((with_reducible show wpList _ _ _ (Oper.mk _ (Op.build 105 _) _ _ _ _ :: _) _ _); refine wpList_buildS rfl _ _ rfl #[] zs.toArray (by simp only [List.map_toArray, List.map_nil]) (HBZ.out _) ?_) | ((with_reducible show wpList _ _ _ (Oper.mk _ (Op.store 105 _ _) _ _ _ _ :: _) _ _); refine wpList_storeS sEnt rfl _ _ rfl b2 _ zs rfl rfl HK2.out ZM.out.2.1 ZM.out.2.1 ZM.out.2.2 ?_))
    intro w3 hb3 hg3
    have l1' := Lib.hid (run_loadS sEnt b2 zs hb3 ZM.out.2.1)
    have HRES := Lib.hid (HOUT.out w3 HDO.out (HE2.out.grown hg3 HE2.out.size (fun j e => by injection e with e; have := HB2.out; omega)))
    clear hb3 hg3 HOUT
    go_wp2
    exact bodyPost_ret (v := .tuple #[.agg zs.toArray, .bool false]) (by simp [results, Tryz.results56, asAddr, l1'.out]) rfl HRES.out
  | true =>
  obtain ⟨C, hC⟩ : ∃ C, C = l.take 60 := ⟨_, rfl⟩
  have e0 : Go.Proofs.YtjfpoahmjgeogaaGreatDoor.openB l = (C, 0) := by rw [openG_64 H64.out, if_pos hgd, hC]
  have HEF := Lib.hid (entF_some (n := n) (show Nac.Img.openB l = some C by rw [openB_64 H64.out, if_pos hgd, hC]))
  have HC60 : Hid (C.length = 60) := Lib.hid (by rw [hC, List.length_take, H64.out]; decide)
  rw [e0] at ho2 ⊢
  have HRD : Hid (Calls Tryz.prog 77 #[.slice A2 C.length c2] w2 (RetRd w2 C)) := Lib.hid (read_calls w2 w2.heap.size A2 c2 C ho2.rb (Nat.le_refl _) (by rw [HC60.out]; decide))
  clear ho2 hb2 HOP HB1 HE1 hgd hC e0
  go_wp2_with fail
  go_at_call 77
  with_reducible refine HRD.out.mono ?_
  rintro e w3 ⟨rb, Ar, cr, rfl, hrd, hlt, hb3⟩
  have HK3 : Hid (Blk w3 b2 zs) := Lib.hid (HK2.out.below hb3 HK2.out.lt)
  have HE3 : Hid (Below w.heap.size w w3) := Lib.hid (HE2.out.trans (hb3.mono HE2.out.size))
  have HL3 : Hid (b2 < rb) := Lib.hid (Nat.lt_of_lt_of_le HK2.out.lt hlt)
  have HRM3 := Lib.hid hrd
  have HNA : Hid (∀ w p k X, RdM w rb Ar cr ⟨C, p, 0⟩ → 1 ≤ k → k ≤ 8 → p + k ≤ 60 → X = le (cut C p k) → Calls Tryz.prog 78 #[.pointer (some ⟨rb, 0, none⟩), .int .i64 ((k : Nat) : Int)] w (RetNum w rb Ar cr (⟨C, p + k, 0⟩, X))) := Lib.hid fun w p k X hr h1 h8 hp hX => by
    have := num_calls w rb Ar cr ⟨C, p, 0⟩ hr (by show C.length ≤ _; rw [HC60.out]; decide) k
    rw [Rdr.num_at h1 h8 (by rw [HC60.out]; exact hp)] at this
    rw [hX]
    exact this
  obtain ⟨y0, hy0⟩ : ∃ X, X = le (cut C 0 1) := ⟨_, rfl⟩
  obtain ⟨y1, hy1⟩ : ∃ X, X = le (cut C 1 4) := ⟨_, rfl⟩
  have HNY : Hid (Calls Tryz.prog 78 #[.pointer (some ⟨rb, 0, none⟩), .int .i64 1] w3 (RetNum w3 rb Ar cr (⟨C, 1, 0⟩, y0))) := Lib.hid (HNA.out w3 0 1 y0 hrd (by decide) (by decide) (by decide) hy0)
  have HY1 := Lib.hid hy1
  clear hrd hlt hb3 hy0 hy1 HRD HK2 HE2
  go_wp2_with fail
  go_at_call 78
  with_reducible refine HNY.out.mono ?_
  rintro e w4 ⟨rfl, hm4, hg4⟩
  have HRM4 := Lib.hid hm4
  have HK4 : Hid (Blk w4 b2 zs) := Lib.hid (HK3.out.grown hg4 (fun e => by injection e with e; have := HL3.out; omega))
  have HE4 : Hid (Below w.heap.size w w4) := Lib.hid (HE3.out.grown hg4 HE3.out.size (fun j e => by injection e with e; have := HL3.out; have := HB2.out; omega))
  have HNZ : Hid (Calls Tryz.prog 78 #[.pointer (some ⟨rb, 0, none⟩), .int .i64 4] w4 (RetNum w4 rb Ar cr (⟨C, 5, 0⟩, y1))) := Lib.hid (HNA.out w4 1 4 y1 hm4 (by decide) (by decide) (by decide) HY1.out)
  clear hm4 hg4 HNY HRM3 HK3 HE3
  go_wp2_with fail
  go_at_call 78
  with_reducible refine HNZ.out.mono ?_
  rintro e w5 ⟨rfl, hm5, hg5⟩
  have HRM5 := Lib.hid hm5
  have HK5 : Hid (Blk w5 b2 zs) := Lib.hid (HK4.out.grown hg5 (fun e => by injection e with e; have := HL3.out; omega))
  have HE5 : Hid (Below w.heap.size w w5) := Lib.hid (HE4.out.grown hg5 HE4.out.size (fun j e => by injection e with e; have := HL3.out; have := HB2.out; omega))
  clear hm5 hg5 HNZ HRM4 HK4 HE4
  go_wp2_with (((with_reducible show wpList _ _ _ (Oper.mk (some 9) (Op.alloc 105) _ _ _ _ :: _) _ _); refine wpList_allocS _ ZM.out.1 rfl rfl ?_))
  intro w6 hb6 hg6 hs6
  obtain ⟨b5, hB5⟩ : ∃ b, b = w5.heap.size := ⟨_, rfl⟩
  rw [← hB5] at hb6 ⊢
  have HS6 : Hid (RdS w w6 b2 rb b5 zs Ar cr ⟨C, 5, 0⟩ zs) := Lib.hid ⟨HRM5.out.grown hg6 (fun k e => by cases e), hb6, HK5.out.grown hg6 (by simp), HE5.out.trans ((gbelow hg6).mono HE5.out.size), by rw [HB2.out]; exact Nat.le_refl _, HL3.out, by rw [hB5]; exact HRM5.out.blk.lt⟩
  have cs6 := zs
  have HCL6 : Hid (zs.length = 4) := Lib.hid ZM.out.2.1
  clear hb6 hg6 hs6 hB5 HRM5 HK5 HE5 cs6
  obtain ⟨x0, hx0⟩ : ∃ X, X = le (cut C 5 1) := ⟨_, rfl⟩
  obtain ⟨x1, hx1⟩ : ∃ X, X = le (cut C 6 1) := ⟨_, rfl⟩
  obtain ⟨x2, hx2⟩ : ∃ X, X = le (cut C 7 4) := ⟨_, rfl⟩
  obtain ⟨x3, hx3⟩ : ∃ X, X = le (cut C 11 1) := ⟨_, rfl⟩
  have HXX : Hid (x0 = le (cut C 5 1) ∧ x1 = le (cut C 6 1) ∧ x2 = le (cut C 7 4) ∧ x3 = le (cut C 11 1)) := Lib.hid ⟨hx0, hx1, hx2, hx3⟩
  have b0 : x0 < 256 := by rw [hx0]; exact cut_lt C 5 1
  have b1 : x1 < 256 := by rw [hx1]; exact cut_lt C 6 1
  have b2' : x2 < 4294967296 := by rw [hx2]; exact cut_lt C 7 4
  have b3 : x3 < 256 := by rw [hx3]; exact cut_lt C 11 1
  have HX2 : Hid (x2 < 4294967296) := Lib.hid b2'
  have v0 : wrap64 (x0 : Int) = (x0 : Int) := by unfold wrap64; omega
  have v1 : wrap64 (x1 : Int) = (x1 : Int) := by unfold wrap64; omega
  have v3 : wrap64 (x3 : Int) = (x3 : Int) := by unfold wrap64; omega
  have u0 : IntKind.i64.wrap (x0 : Int) = (x0 : Int) := by rw [Go.IntWalk.i64_left]; exact v0
  have u1 : IntKind.i64.wrap (x1 : Int) = (x1 : Int) := by rw [Go.IntWalk.i64_left]; exact v1
  have u3 : IntKind.i64.wrap (x3 : Int) = (x3 : Int) := by rw [Go.IntWalk.i64_left]; exact v3
  have u2 : IntKind.u32.wrap (x2 : Int) = (x2 : Int) := by rw [IntKind.wrap_u32]; omega
  have v2 : (x2 : Int) % 4294967296 = (x2 : Int) := by omega
  clear hx0 hx1 hx2 hx3 b0 b1 b2' b3
  have HN6 : Hid (Calls Tryz.prog 78 #[.pointer (some ⟨rb, 0, none⟩), .int .i64 1] w6 (RetNum w6 rb Ar cr (⟨C, 6, 0⟩, x0))) := Lib.hid (HNA.out w6 5 1 x0 HS6.out.rd (by decide) (by decide) (by decide) HXX.out.1)
  go_wp2_with fail
  go_at_call 78
  with_reducible refine HN6.out.mono ?_
  rintro e w7 ⟨rfl, hm7, hg7⟩
  have HS7 : Hid (RdS w w7 b2 rb b5 zs Ar cr ⟨C, 6, 0⟩ zs) := Lib.hid (HS6.out.num hm7 hg7)
  clear hm7 hg7 HN6 HS6
  go_wp2_with (((with_reducible show wpList _ _ _ (Oper.mk _ (Op.store 3 _ _) _ _ _ _ :: _) _ _); refine wpList_storeB rfl 3 _ _ rfl b5 0 zs (.int .i64 (x0 : Int)) (by rw [HCL6.out]; decide) rfl (by rfl) HS7.out.k5 (by kernel_rfl) rfl ?_))
  intro w8 hb8 hg8 hs8
  obtain ⟨cs8, hcs8⟩ : ∃ cs, cs = zs.set 0 (.int .i64 (x0 : Int)) := ⟨_, rfl⟩
  rw [← hcs8] at hb8
  have HC8 := Lib.hid hcs8
  have HCL8 : Hid (cs8.length = 4) := Lib.hid (by rw [hcs8, List.length_set]; exact HCL6.out)
  have HS8 : Hid (RdS w w8 b2 rb b5 zs Ar cr ⟨C, 6, 0⟩ cs8) := Lib.hid (HS7.out.sto hb8.out hg8.out)
  clear hb8 hg8 hs8 hcs8 HS7
  have HN8 : Hid (Calls Tryz.prog 78 #[.pointer (some ⟨rb, 0, none⟩), .int .i64 1] w8 (RetNum w8 rb Ar cr (⟨C, 7, 0⟩, x1))) := Lib.hid (HNA.out w8 6 1 x1 HS8.out.rd (by decide) (by decide) (by decide) HXX.out.2.1)
  go_wp2_with fail
  go_at_call 78
  with_reducible refine HN8.out.mono ?_
  rintro e w9 ⟨rfl, hm9, hg9⟩
  have HS9 : Hid (RdS w w9 b2 rb b5 zs Ar cr ⟨C, 7, 0⟩ cs8) := Lib.hid (HS8.out.num hm9 hg9)
  clear hm9 hg9 HN8 HS8
  go_wp2_with (((with_reducible show wpList _ _ _ (Oper.mk _ (Op.store 3 _ _) _ _ _ _ :: _) _ _); refine wpList_storeB rfl 3 _ _ rfl b5 1 cs8 (.int .i64 (x1 : Int)) (by rw [HCL8.out]; decide) rfl (by rfl) HS9.out.k5 (by kernel_rfl) rfl ?_))
  intro w10 hb10 hg10 hs10
  obtain ⟨cs10, hcs10⟩ : ∃ cs, cs = cs8.set 1 (.int .i64 (x1 : Int)) := ⟨_, rfl⟩
  rw [← hcs10] at hb10
  have HC10 := Lib.hid hcs10
  have HCL10 : Hid (cs10.length = 4) := Lib.hid (by rw [hcs10, List.length_set]; exact HCL8.out)
  have HS10 : Hid (RdS w w10 b2 rb b5 zs Ar cr ⟨C, 7, 0⟩ cs10) := Lib.hid (HS9.out.sto hb10.out hg10.out)
  clear hb10 hg10 hs10 hcs10 HS9
  have HN10 : Hid (Calls Tryz.prog 78 #[.pointer (some ⟨rb, 0, none⟩), .int .i64 4] w10 (RetNum w10 rb Ar cr (⟨C, 11, 0⟩, x2))) := Lib.hid (HNA.out w10 7 4 x2 HS10.out.rd (by decide) (by decide) (by decide) HXX.out.2.2.1)
  go_wp2_with fail
  go_at_call 78
  with_reducible refine HN10.out.mono ?_
  rintro e w11 ⟨rfl, hm11, hg11⟩
  have HS11 : Hid (RdS w w11 b2 rb b5 zs Ar cr ⟨C, 11, 0⟩ cs10) := Lib.hid (HS10.out.num hm11 hg11)
  clear hm11 hg11 HN10 HS10
  go_wp2_with (((with_reducible show wpList _ _ _ (Oper.mk _ (Op.store 44 _ _) _ _ _ _ :: _) _ _); refine wpList_storeB rfl 44 _ _ rfl b5 2 cs10 (.int .u32 (x2 : Int)) (by rw [HCL10.out]; decide) rfl (by rfl) HS11.out.k5 (by kernel_rfl) rfl ?_))
  intro w12 hb12 hg12 hs12
  obtain ⟨cs12, hcs12⟩ : ∃ cs, cs = cs10.set 2 (.int .u32 (x2 : Int)) := ⟨_, rfl⟩
  rw [← hcs12] at hb12
  have HC12 := Lib.hid hcs12
  have HCL12 : Hid (cs12.length = 4) := Lib.hid (by rw [hcs12, List.length_set]; exact HCL10.out)
  have HS12 : Hid (RdS w w12 b2 rb b5 zs Ar cr ⟨C, 11, 0⟩ cs12) := Lib.hid (HS11.out.sto hb12.out hg12.out)
  clear hb12 hg12 hs12 hcs12 HS11
  have HN12 : Hid (Calls Tryz.prog 78 #[.pointer (some ⟨rb, 0, none⟩), .int .i64 1] w12 (RetNum w12 rb Ar cr (⟨C, 12, 0⟩, x3))) := Lib.hid (HNA.out w12 11 1 x3 HS12.out.rd (by decide) (by decide) (by decide) HXX.out.2.2.2)
  go_wp2_with fail
  go_at_call 78
  with_reducible refine HN12.out.mono ?_
  rintro e w13 ⟨rfl, hm13, hg13⟩
  have HS13 : Hid (RdS w w13 b2 rb b5 zs Ar cr ⟨C, 12, 0⟩ cs12) := Lib.hid (HS12.out.num hm13 hg13)
  clear hm13 hg13 HN12 HS12
  go_wp2_with (((with_reducible show wpList _ _ _ (Oper.mk _ (Op.store 3 _ _) _ _ _ _ :: _) _ _); refine wpList_storeB rfl 3 _ _ rfl b5 3 cs12 (.int .i64 (x3 : Int)) (by rw [HCL12.out]; decide) rfl (by rfl) HS13.out.k5 (by kernel_rfl) rfl ?_))
  intro w14 hb14 hg14 hs14
  obtain ⟨cs14, hcs14⟩ : ∃ cs, cs = cs12.set 3 (.int .i64 (x3 : Int)) := ⟨_, rfl⟩
  rw [← hcs14] at hb14
  have HC14 := Lib.hid hcs14
  have HCL14 : Hid (cs14.length = 4) := Lib.hid (by rw [hcs14, List.length_set]; exact HCL12.out)
  have HS14 : Hid (RdS w w14 b2 rb b5 zs Ar cr ⟨C, 12, 0⟩ cs14) := Lib.hid (HS13.out.sto hb14.out hg14.out)
  clear hb14 hg14 hs14 hcs14 HS13
  obtain ⟨x, hx⟩ : ∃ x : Ent, x = ⟨x0, x1, x2, x3⟩ := ⟨_, rfl⟩
  obtain ⟨xs, hxs⟩ : ∃ xs, xs = ecells x := ⟨_, rfl⟩
  have HXC : Hid (cs14 = xs) := Lib.hid (by rw [hxs, hx, HC14.out, HC12.out, HC10.out, HC8.out, HZS.out]; rfl)
  have HS15 : Hid (RdS w w14 b2 rb b5 zs Ar cr ⟨C, 12, 0⟩ xs) := Lib.hid (by rw [← HXC.out]; exact HS14.out)
  have HDM : Hid (entF n l = if x.okB = true ∧ entSec n x = l then some x else none) := Lib.hid (by rw [HEF.out, hx, HXX.out.1, HXX.out.2.1, HXX.out.2.2.1, HXX.out.2.2.2])
  have HX4 : Hid (xs.length = 4 ∧ ∀ v ∈ xs, v.oneCell' = true) := Lib.hid (by rw [hxs]; exact ⟨rfl, ecells_one _⟩)
  have HXV : Hid (x.ver < 4294967296) := Lib.hid (by rw [hx]; exact HX2.out)
  have HVC : Hid (∀ w, Calls Tryz.prog 68 #[.agg xs.toArray] w (fun e w' => e = .returned (.bool x.okB) ∧ Below w.heap.size w w')) := Lib.hid fun w => by rw [hxs]; exact avalid_calls w x
  have HSC : Hid (x.okB = true → ∀ w', Below w.heap.size w w' → Calls Tryz.prog 69 #[.int .i64 (n : Int), .agg xs.toArray] w' (RetPut w' (entSec n x))) := Lib.hid fun hk w' hb => by rw [hxs]; exact asector_calls w' (HG.out.below' hb) n x HN.out.1 hk HXV.out
  have HXS := Lib.hid hxs
  clear hx hxs HS14
  go_wp2_with (((with_reducible show wpList _ _ _ (Oper.mk (some 40) (Op.load 105 _) _ _ _ _ :: _) _ _); refine wpList_loadS sEnt rfl _ rfl b5 xs rfl HS15.out.k5 HX4.out.1 ?_))
  go_at_call 68
  with_reducible refine (HVC.out w14).mono ?_
  rintro e w15 ⟨rfl, hb15⟩
  have HS16 : Hid (Blk w15 b5 xs ∧ Blk w15 b2 zs ∧ Below w.heap.size w w15 ∧ w.heap.size ≤ b2) := Lib.hid ⟨HS15.out.k5.below hb15 HS15.out.k5.lt, HS15.out.k2.below hb15 HS15.out.k2.lt, HS15.out.bel.trans (hb15.mono HS15.out.bel.size), HS15.out.lt1⟩
  clear hb15 HS15 HVC
  cases hok : x.okB with
  | false =>
    have HDO : Hid (entF n l = none) := Lib.hid (by rw [HDM.out, if_neg (fun e => by rw [hok] at e; exact absurd e.1 (by decide))])
    clear hok
    go_wp2_with (first | ((with_reducible show wpList _ _ _ (Oper.mk _ (Op.build 105 _) _ _ _ _ :: _) _ _); refine wpList_buildS rfl _ _ rfl #[] zs.toArray (by simp only [List.map_toArray, List.map_nil]) (HBZ.out _) ?_) | ((with_reducible show wpList _ _ _ (Oper.mk _ (Op.store 105 _ _) _ _ _ _ :: _) _ _); refine wpList_storeS sEnt rfl _ _ rfl b2 _ zs rfl rfl HS16.out.2.1 ZM.out.2.1 ZM.out.2.1 ZM.out.2.2 ?_))
    intro w17 hb17 hg17
    have l1' := Lib.hid (run_loadS sEnt b2 zs hb17 ZM.out.2.1)
    have HRES := Lib.hid (HOUT.out w17 HDO.out (HS16.out.2.2.1.grown hg17 HS16.out.2.2.1.size (fun j e => by injection e with e; have := HS16.out.2.2.2; omega)))
    clear hb17 hg17 HOUT
    go_wp2
    exact bodyPost_ret (v := .tuple #[.agg zs.toArray, .bool false]) (by simp [results, Tryz.results56, asAddr, l1'.out]) rfl HRES.out
  | true =>
  have HSC' := Lib.hid (HSC.out hok w15 HS16.out.2.2.1)
  have HOK := Lib.hid hok
  clear hok HSC
  go_wp2_with (((with_reducible show wpList _ _ _ (Oper.mk (some 45) (Op.load 105 _) _ _ _ _ :: _) _ _); refine wpList_loadSw sEnt (by first | rfl | simp [Region.wanted, yielded]) _ rfl b5 xs rfl HS16.out.1 HX4.out.1 ?_))
  with_reducible refine HSC'.out.mono ?_
  rintro e w16 ⟨A16, c16, rfl, ho16, hb16⟩
  obtain ⟨S, hS⟩ : ∃ S, S = entSec n x := ⟨_, rfl⟩
  rw [← hS] at ho16 ⊢
  have HSE := Lib.hid hS
  have HS17 : Hid (Blk w16 b5 xs ∧ Blk w16 b2 zs ∧ Below w.heap.size w w16) := Lib.hid ⟨HS16.out.1.below hb16 HS16.out.1.lt, HS16.out.2.1.below hb16 HS16.out.2.1.lt, HS16.out.2.2.1.trans (hb16.mono HS16.out.2.2.1.size)⟩
  obtain ⟨be, hbe⟩ : ∃ be, be = decide (S = l) := ⟨_, rfl⟩
  have HBE := Lib.hid hbe
  have HEQ : Hid (Calls Tryz.prog 79 #[.slice A16 S.length c16, .slice A 64 c] w16 (fun e w' => e = .returned (.bool be) ∧ w' = w16)) := Lib.hid (by rw [hbe]; exact equal_calls w16 A16 A S.length 64 c16 c S l rfl H64.out.symm ho16.rb ((HA.out.below HS17.out.2.2).mono HS17.out.2.2.size))
  clear ho16 hb16 hS hbe HSC'
  cases be with
  | false =>
    have HDO : Hid (entF n l = none) := Lib.hid (by
      have := HBE.out
      have : S ≠ l := by simpa using this.symm
      rw [HDM.out, if_neg (fun e => this (by rw [HSE.out]; exact e.2))])
    go_wp2_with fail
    go_at_call 79
    with_reducible refine HEQ.out.mono ?_
    rintro e w17 ⟨rfl, rfl⟩
    clear HEQ
    go_wp2_with (first | ((with_reducible show wpList _ _ _ (Oper.mk _ (Op.build 105 _) _ _ _ _ :: _) _ _); refine wpList_buildS rfl _ _ rfl #[] zs.toArray (by simp only [List.map_toArray, List.map_nil]) (HBZ.out _) ?_) | ((with_reducible show wpList _ _ _ (Oper.mk _ (Op.store 105 _ _) _ _ _ _ :: _) _ _); refine wpList_storeS sEnt rfl _ _ rfl b2 _ zs rfl rfl HS17.out.2.1 ZM.out.2.1 ZM.out.2.1 ZM.out.2.2 ?_))
    intro w18 hb18 hg18
    have l1' := Lib.hid (run_loadS sEnt b2 zs hb18 ZM.out.2.1)
    have HRES := Lib.hid (HOUT.out w18 HDO.out (HS17.out.2.2.grown hg18 HS17.out.2.2.size (fun j e => by injection e with e; have := HS16.out.2.2.2; omega)))
    clear hb18 hg18 HOUT
    go_wp2
    exact bodyPost_ret (v := .tuple #[.agg zs.toArray, .bool false]) (by simp [results, Tryz.results56, asAddr, l1'.out]) rfl HRES.out
  | true =>
  have HDO : Hid (entF n l = some x) := Lib.hid (by
    have := HBE.out
    have : S = l := by simpa using this.symm
    rw [HDM.out, if_pos ⟨HOK.out, by rw [← HSE.out]; exact this⟩])
  go_wp2_with fail
  go_at_call 79
  with_reducible refine HEQ.out.mono ?_
  rintro e w17 ⟨rfl, rfl⟩
  clear HEQ
  go_wp2_with (first | ((with_reducible show wpList _ _ _ (Oper.mk (some 52) (Op.load 105 _) _ _ _ _ :: _) _ _); refine wpList_loadS sEnt rfl _ rfl b5 xs rfl HS17.out.1 HX4.out.1 ?_) | ((with_reducible show wpList _ _ _ (Oper.mk _ (Op.store 105 _ _) _ _ _ _ :: _) _ _); refine wpList_storeS sEnt rfl _ _ rfl b2 _ xs rfl rfl HS17.out.2.1 ZM.out.2.1 HX4.out.1 HX4.out.2 ?_))
  intro w18 hb18 hg18
  have l1' := Lib.hid (run_loadS sEnt b2 xs hb18 HX4.out.1)
  have HRES : Hid (RetEn w (entF n l).isSome (.returned (.tuple #[.agg xs.toArray, .bool true])) w18) := Lib.hid (by rw [HDO.out, HXS.out]; exact ⟨x, rfl, HS17.out.2.2.grown hg18 HS17.out.2.2.size (fun j e => by injection e with e; have := HS16.out.2.2.2; omega)⟩)
  clear hb18 hg18 HOUT
  go_wp2
  exact bodyPost_ret (v := .tuple #[.agg xs.toArray, .bool true]) (by simp [results, Tryz.results56, asAddr, l1'.out]) rfl HRES.out
end Go.Proofs.YtjfpoahmjgeogaaGreatDoor
/- audit: Open. -/
namespace Nac.Img
theorem logF_len_none {L : Nat → List UInt8} {f k : Nat} (hf : 0 < f) (h : entF k (L k) = none) : (logF L f k).length = 0 := by
  obtain ⟨f, rfl⟩ : ∃ g, f = g + 1 := ⟨f - 1, by omega⟩
  unfold logF
  rw [h]
  rfl
theorem logF_len_some {L : Nat → List UInt8} {f k : Nat} (hf : 0 < f) (h : (entF k (L k)).isSome = true) : (logF L f k).length = (logF L (f - 1) (k + 1)).length + 1 := by
  obtain ⟨f, rfl⟩ : ∃ g, f = g + 1 := ⟨f - 1, by omega⟩
  obtain ⟨x, hx⟩ := Option.isSome_iff_exists.1 h
  rw [show logF L (f + 1) k = x :: logF L f (k + 1) by rw [logF, hx]]
  rfl
end Nac.Img
namespace Go.Proofs.YtjfpoahmjgeogaaGreatDoor
open Go.RowKit Nac Nac.Img Nac.Sha Nac.Crc
theorem infoEn : (Tryz.prog.info? 105).map (fun i => (i.zero, i.size, i.bytes)) = some (some (.agg (ecells zEnt).toArray), 4, 32) := by kernel_rfl
structure LogI (w : World) (bg bp : Nat) (Ae : Option Addr) (ce n : Nat) : Prop where
  blk : Blk w bg [.pointer (some ⟨bp, 0, none⟩), .slice Ae n ce, .bool false]
  row : ∃ xs, Row w 105 4 Ae ce n xs ∧ ∀ u ∈ xs, u.oneCell' = true
  ne : Ae.map (·.block) ≠ some bg
theorem LogI.lt {w : World} {bg bp ce n : Nat} {Ae : Option Addr} (h : LogI w bg bp Ae ce n) : ∀ g, Ae.map (·.block) = some g → g < w.heap.size := by
  obtain ⟨xs, hr, _⟩ := h.row
  exact hr.lt
theorem LogI.below {w w' : World} {bg bp ce n : Nat} {Ae : Option Addr} (h : LogI w bg bp Ae ce n) (hb : Below w.heap.size w w') : LogI w' bg bp Ae ce n := by
  obtain ⟨xs, hr, h1⟩ := h.row
  exact ⟨h.blk.below hb h.blk.lt, ⟨xs, hr.below hb, h1⟩, h.ne⟩
theorem LogI.upd {w w' : World} {O O' : Nat → Prop} {bg bp ce n : Nat} {Ae : Option Addr} (h : LogI w bg bp Ae ce n) (hu : Upd O w w' O') (h1 : ¬ O bg) (h2 : ∀ g, Ae.map (·.block) = some g → ¬ O g) : LogI w' bg bp Ae ce n := by
  obtain ⟨xs, hr, h3⟩ := h.row
  exact ⟨hu.blk h.blk h1, ⟨xs, hr.same fun g hg => hu.keep g (h.lt g hg) (h2 g hg), h3⟩, h.ne⟩
def AoR (w0 : World) (bg bp : Nat) (L : Nat → List UInt8) (s : Value) (w : World) : Prop :=
  ∃ (k : Nat) (Ae : Option Addr) (ce : Nat), k ≤ 16 ∧ s = .int .i64 (k : Int) ∧ LogI w bg bp Ae ce k ∧ (∀ g, Ae.map (·.block) = some g → w0.heap.size ≤ g) ∧ Below w0.heap.size w0 w ∧ (logF L 16 0).length = k + (logF L (16 - k) k).length
def RetLo (w : World) (bp n : Nat) (e : Ending) (w' : World) : Prop := ∃ bg Ae ce, e = .returned (.tuple #[.pointer (some ⟨bg, 0, none⟩), .int .i64 0]) ∧ LogI w' bg bp Ae ce n ∧ w.heap.size ≤ bg ∧ (∀ g, Ae.map (·.block) = some g → w.heap.size ≤ g) ∧ Below w.heap.size w w'
set_option maxRecDepth 100000 in
set_option maxHeartbeats 16000000 in
theorem aopen_calls (w : World) (hG : Gl w) (bp bd : Nat) (O : Nat → Prop) (d : Dk) (h : PartM w bp bd 24 16) (hd : DkM w bd O d) (hoff : d.off = false) (hpd : d.pend = []) :
    Calls Tryz.prog 29 #[.pointer (some ⟨bp, 0, none⟩)] w (RetLo w bp (logAt d.secs).length) := by
  have hmf : ∀ (fn : Fn) (first cap : Array Value) (w : World), (Instr.makeFunc fn first cap).run Tryz.prog w = .ok (.func fn first cap) w := fun _ _ _ _ => rfl
  have HG := Lib.hid hG
  have HP := Lib.hid h
  have HD := Lib.hid (And.intro hd (And.intro hoff hpd))
  obtain ⟨L, hL⟩ : ∃ L : Nat → List UInt8, L = fun n => d.secs.getD (24 + n) [] := ⟨_, rfl⟩
  have HL : Hid ((logAt d.secs).length = (logF L 16 0).length) := Lib.hid (by rw [hL]; rfl)
  have HLk : Hid (∀ k, L k = d.secs.getD (24 + k) []) := Lib.hid fun k => by rw [hL]
  clear hG h hd hoff hpd hL
  go_enter Tryz.func29, Tryz.ntmps29
  go_wp2_with (((with_reducible show wpList _ _ _ (Oper.mk _ (Op.box 127 _) _ _ _ _ :: _) _ _); refine wpList_boxS rfl _ rfl [.pointer (some ⟨bp, 0, none⟩), .slice none 0 0, .bool false] (by rfl) ?_))
  intro w1 hb1 hg1 hs1
  obtain ⟨bg, hBG⟩ : ∃ b, b = w.heap.size := ⟨_, rfl⟩
  rw [← hBG] at hb1 ⊢
  have HBG := Lib.hid hBG
  have HI1 : Hid (LogI w1 bg bp none 0 0) := Lib.hid ⟨hb1, ⟨[], Row.nil _ _ _, fun u hu => by cases hu⟩, fun e => by cases e⟩
  have HE1 : Hid (Below w.heap.size w w1) := Lib.hid (gbelow hg1)
  have HSZ : Hid (Calls Tryz.prog 26 #[.pointer (some ⟨bp, 0, none⟩)] w1 (fun e w' => e = .returned (.int .i64 16) ∧ w' = w1)) := Lib.hid (esize_calls w1 bp bd 24 16 (Blk.below HP.out (gbelow hg1) (Blk.lt HP.out)))
  clear hb1 hg1 hs1 hBG
  go_wp2_with fail
  go_at_call 26
  with_reducible refine HSZ.out.mono ?_
  rintro e w1' ⟨rfl, rfl⟩
  clear HSZ
  go_wp2_with fail
  go_loopw [16] (fun s16 wr => AoR w bg bp L s16 wr) (fun s16 _ => 16 - (intOf s16).toNat)
  case atStart => exact ⟨0, none, 0, Nat.zero_le _, rfl, HI1.out, fun g hg => (by cases hg), HE1.out, by rw [Nat.zero_add]⟩
  case round =>
    obtain ⟨k, Ae, ce, hk, rfl, hi, hn, hbel, hlen⟩ := hrel
    have HI := Lib.hid hi
    have HN := Lib.hid hn
    have HB := Lib.hid hbel
    have HLN := Lib.hid hlen
    have HK16 := Lib.hid hk
    clear hi hn hbel hlen HI1 HE1
    by_cases hlt : k < 16
    · have HLT := Lib.hid hlt
      have HRD : Hid (Calls Tryz.prog 51 #[.pointer (some ⟨bp, 0, none⟩), .int .i64 (k : Int)] wr (RetDr wr (L k))) := Lib.hid (by rw [HLk.out]; exact eread_calls wr bp bd 24 16 k O d (Blk.below HP.out HB.out (Blk.lt HP.out)) (HD.out.1.below HB.out) hlt (by decide) HD.out.2.1 HD.out.2.2)
      go_wp2_with fail
      go_at_call 51
      with_reducible refine HRD.out.mono ?_
      rintro e w2 ⟨b2, rfl, hlt2, hb2, hx64, hbb2⟩
      have HI2 : Hid (LogI w2 bg bp Ae ce k) := Lib.hid (HI.out.below hbb2)
      have HB2 : Hid (Below w.heap.size w w2) := Lib.hid (HB.out.trans (hbb2.mono HB.out.size))
      have HEN : Hid (Calls Tryz.prog 56 #[.int .i64 (k : Int), .slice (some ⟨b2, 0, none⟩) 64 64] w2 (RetEn w2 (entF k (L k)).isSome)) := Lib.hid (aentry_calls w2 (HG.out.below' HB2.out) k (by omega) (some ⟨b2, 0, none⟩) 64 (L k) hx64 (fun _ => ⟨b2, 0, rfl, hb2.lt, fun j hj => by
        rw [Nat.zero_add]
        refine hb2.cell ?_
        rw [List.getElem?_map, List.getElem?_eq_getElem hj]
        rfl⟩) (Nat.le_refl _))
      obtain ⟨ok, hok⟩ : ∃ ok, ok = (entF k (L k)).isSome := ⟨_, rfl⟩
      rw [← hok] at HEN
      have HOK := Lib.hid hok
      clear hlt2 hb2 hx64 hbb2 HRD HI hok
      go_wp2_with fail
      go_at_call 56
      with_reducible refine HEN.out.mono ?_
      rintro e w3 ⟨x, rfl, hbb3⟩
      have HI3 : Hid (LogI w3 bg bp Ae ce k) := Lib.hid (HI2.out.below hbb3)
      have HB3 : Hid (Below w.heap.size w w3) := Lib.hid (HB2.out.trans (hbb3.mono HB2.out.size))
      obtain ⟨xs9, hxs9⟩ : ∃ xs, xs = ecells x := ⟨_, rfl⟩
      rw [← hxs9]
      have HX9 : Hid (xs9.length = 4 ∧ ∀ v ∈ xs9, v.oneCell' = true) := Lib.hid (by rw [hxs9]; exact ⟨rfl, ecells_one _⟩)
      obtain ⟨zs, hzs⟩ : ∃ zs, zs = ecells zEnt := ⟨_, rfl⟩
      have ZM : Hid (((Tryz.prog.info? 105).bind (·.zero)) = some (.agg zs.toArray) ∧ zs.length = 4) := Lib.hid (by rw [hzs]; exact ⟨zeroEnt, rfl⟩)
      clear hbb3 hxs9 hzs HEN HI2 HB2
      go_wp2_with (((with_reducible show wpList _ _ _ (Oper.mk (some 9) (Op.alloc 105) _ _ _ _ :: _) _ _); refine wpList_allocS _ ZM.out.1 rfl rfl ?_))
      intro w4 hb4 hg4 hs4
      obtain ⟨b9, hB9⟩ : ∃ b, b = w3.heap.size := ⟨_, rfl⟩
      rw [← hB9] at hb4 ⊢
      have HB9 := Lib.hid hB9
      have HK9 := Lib.hid hb4
      have HI4 : Hid (LogI w4 bg bp Ae ce k) := Lib.hid (HI3.out.below (gbelow hg4))
      have HB4 : Hid (Below w.heap.size w w4) := Lib.hid (HB3.out.trans ((gbelow hg4).mono HB3.out.size))
      have HLB : Hid (bg < b9 ∧ (∀ g, Ae.map (·.block) = some g → g < b9) ∧ w.heap.size ≤ b9) := Lib.hid (by rw [hB9]; exact ⟨HI3.out.blk.lt, HI3.out.lt, HB3.out.size⟩)
      clear hb4 hg4 hs4 hB9 HI3 HB3
      go_wp2_with (((with_reducible show wpList _ _ _ (Oper.mk _ (Op.store 105 _ _) _ _ _ _ :: _) _ _); refine wpList_storeS sEnt rfl _ _ rfl b9 _ xs9 rfl rfl HK9.out ZM.out.2 HX9.out.1 HX9.out.2 ?_))
      intro W6 hb6 hg6
      have HK6 := Lib.hid hb6
      have HI6 : Hid (LogI W6 bg bp Ae ce k) := Lib.hid (HI4.out.upd (Upd.grown (O := fun j => j = b9) hg6 (fun j e => by injection e with e; exact e.symm)) (fun e => by have := HLB.out.1; omega) (fun g hg e => by have := HLB.out.2.1 g hg; omega))
      have HB6 : Hid (Below w.heap.size w W6) := Lib.hid (HB4.out.grown hg6 HB4.out.size (fun j e => by injection e with e; have := HLB.out.2.2; omega))
      clear hb6 hg6 HI4 HB4 HK9
      cases ok with
      | false =>
        have HFN : Hid ((logAt d.secs).length = k) := Lib.hid (by
          have h1 : entF k (L k) = none := by have := HOK.out; cases h : entF k (L k) with
            | none => rfl
            | some y => rw [h] at this; cases this
          rw [HL.out, HLN.out, logF_len_none (by have := HLT.out; omega) h1]; rfl)
        go_wp2_with fail
        go_ret2
        exact ⟨bg, Ae, ce, rfl, by rw [HFN.out]; exact HI6.out, by rw [HBG.out]; exact Nat.le_refl _, HN.out, HB6.out⟩
      | true =>
      have HLN2 : Hid ((logF L 16 0).length = (k + 1) + (logF L (16 - (k + 1)) (k + 1)).length) := Lib.hid (by
        have h1 := logF_len_some (L := L) (f := 16 - k) (k := k) (by have := HLT.out; omega) HOK.out.symm
        have h2 := HLN.out
        rw [show 16 - (k + 1) = 16 - k - 1 by omega]
        omega)
      obtain ⟨XS, hXS, hX1⟩ := HI6.out.row
      have HX1 := Lib.hid hX1
      have QR := Lib.hid hXS
      have HROW : Hid (∀ j, Ae.map (·.block) = some j → j < W6.heap.size) := Lib.hid HI6.out.lt
      have C1 : Hid (∀ w', W6.grownBy w' (Ae.map (·.block)) → w'.cell? ⟨bg, 1, none⟩ = some (.slice Ae k ce)) := Lib.hid fun w' hg => (HI6.out.blk.grown hg HI6.out.ne).cell rfl
      have CW : Hid (∀ w', W6.grownBy w' (Ae.map (·.block)) → (Instr.loadAt 105 (.pointer (some ⟨b9, 0, none⟩))).run Tryz.prog w' = .ok (.agg xs9.toArray) w') := Lib.hid fun w' hg => run_loadAtM sEnt w' b9 0 _ ((HK6.out.grown hg (fun e => by have := HLB.out.2.1 b9 e; omega)).range 0 _ ⟨[], [], by simp, rfl⟩) HX9.out.1
      clear hXS hX1
      go_wp2_with fail
      refine region_relL 8 (AppR (Ae.map (·.block)) 7) (fun ix9 => ([.is (.pointer (some ⟨bg, 0, none⟩)), .is (.pointer (some ⟨bg, 0, none⟩)), .is (.pointer (some ⟨bg, 0, none⟩)), .is (.pointer (some ⟨bg, 1, none⟩)), .is (.slice Ae k ce), .is (.agg xs9.toArray), .pr (BuiltN W6 xs9), .pr (AppedN W6 105 4 Ae k XS xs9)] : List LD).getD ix9 (.is undef)) [some 38, some 39, some 40, some 41, some 42, some 43, some 44, some 45] (AppJ W6 (Ae.map (·.block)) 7) (fun ii hii => ?_) (AppR.refl _ 7) (by kernel_rfl) (by kernel_rfl) (by kernel_rfl) (by kernel_rfl) rfl (AppJ.start W6 _ 7) (fun ii hii => ?_) ?_
      · match ii, hii with
        | 0, _ => exact LD.keeps_is _ _ _
        | 1, _ => exact LD.keeps_is _ _ _
        | 2, _ => exact LD.keeps_is _ _ _
        | 3, _ => exact LD.keeps_is _ _ _
        | 4, _ => exact LD.keeps_is _ _ _
        | 5, _ => exact LD.keeps_is _ _ _
        | 6, _ => exact keep_builtN 6 _ HROW.out
        | 7, _ => exact keep_appedN _ _ _ _ _ _
        | n + 8, h => exact absurd h (by show ¬ (n + 8 < 8); omega)
      · match ii, hii with
        | 0, _ => exact lstep_first (AppR.refl _ 7) rfl (lwant_none rfl) (AppJ.pure (by decide)) 4 (Or.inl rfl) (by kernel_rfl) (fun _ => rfl)
        | 1, _ => exact lstep_first (AppR.refl _ 7) rfl (lwant_none rfl) (AppJ.pure (by decide)) 4 (Or.inl rfl) (by kernel_rfl) (fun _ => rfl)
        | 2, _ => exact lstep_pure (AppR.refl _ 7) rfl (lwant_none rfl) (AppJ.pure (by decide)) (fun LL aa ww cc => ⟨.pointer (some ⟨bg, 0, none⟩), by have e0 : aa.tmps.getD 39 undef = .pointer (some ⟨bg, 0, none⟩) := cc.slot 1 39 (by kernel_rfl) rfl; simp only [execOp, Act.eval]; go_simp, rfl⟩)
        | 3, _ => exact lstep_pure (AppR.refl _ 7) rfl (lwant_none rfl) (AppJ.pure (by decide)) (fun LL aa ww cc => ⟨.pointer (some ⟨bg, 1, none⟩), by have e0 : aa.tmps.getD 40 undef = .pointer (some ⟨bg, 0, none⟩) := cc.slot 2 40 (by kernel_rfl) rfl; simp only [execOp, Act.eval]; go_simp, rfl⟩)
        | 4, _ => exact lstep_pure (AppR.refl _ 7) rfl (lwant_none rfl) (AppJ.pure (by decide)) (fun LL aa ww cc => ⟨.slice Ae k ce, by have e0 : aa.tmps.getD 41 undef = .pointer (some ⟨bg, 1, none⟩) := cc.slot 3 41 (by kernel_rfl) rfl; have q := C1.out _ cc.world.1; simp only [execOp, Act.eval]; go_simp, rfl⟩)
        | 5, _ => exact lstep_loadI ((AppR.refl _ 7)) rfl (lwant_none rfl) (AppJ.pure (by decide)) 9 _ rfl (by kernel_rfl) _ _ rfl rfl (fun _ w hb => CW.out w hb.1)
        | 6, _ => exact lstep_buildN (by decide) rfl (lwant_none rfl) 43 rfl xs9 (fun w => build1_agg Tryz.underlying69 infoEn (by decide) (by decide) xs9 HX9.out.1 w) (fun LL aa ww cc => cc.slot 5 43 (by kernel_rfl) rfl) rfl
        | 7, _ => exact lstep_appN Tryz.underlying69 infoEn (by kernel_rfl) (by decide) (by decide) rfl (lwant_none rfl) 42 44 rfl Ae ce k XS xs9 rfl QR.out HX9.out.1 HX9.out.2 (by have := HK16.out; omega) (fun LL aa ww cc => cc.slot 4 42 (by kernel_rfl) rfl) (fun LL aa ww cc => cc.slot 6 44 (by kernel_rfl) rfl) rfl
        | n + 8, h => exact absurd h (by show ¬ (n + 8 < 8); omega)
      · intro L9 VV w5 hall hlen hJ5 hok
        match VV, hlen with
        | [v0, v1, v2, v3, v4, v5, v6, v7], _ =>
          obtain rfl : v0 = .pointer (some ⟨bg, 0, none⟩) := hok 0 38 rfl
          obtain rfl : v1 = .pointer (some ⟨bg, 0, none⟩) := hok 1 39 rfl
          obtain rfl : v2 = .pointer (some ⟨bg, 0, none⟩) := hok 2 40 rfl
          obtain rfl : v3 = .pointer (some ⟨bg, 1, none⟩) := hok 3 41 rfl
          obtain rfl : v4 = .slice Ae k ce := hok 4 42 rfl
          obtain rfl : v5 = .agg xs9.toArray := hok 5 43 rfl
          have p6 := hok 6 44 rfl
          have p7 := hok 7 45 rfl
          have p7' : AppedN W6 105 4 Ae k XS xs9 v7 w5 := p7
          obtain ⟨A2, c2, rfl, hrow, hnb⟩ := p7'
          have HG5 : Hid (W6.grownBy w5 (Ae.map (·.block))) := Lib.hid hJ5.1
          have HBK5 : Hid (Blk w5 bg [.pointer (some ⟨bp, 0, none⟩), .slice Ae k ce, .bool false]) := Lib.hid (HI6.out.blk.grown hJ5.1 HI6.out.ne)
          have HR5 := Lib.hid hrow
          have HNB : Hid (∀ g, A2.map (·.block) = some g → w.heap.size ≤ g ∧ g ≠ bg) := Lib.hid fun g hg => by
            rcases hnb with e | e
            · exact ⟨HN.out g (e.symm.trans hg), fun e2 => HI6.out.ne (by rw [← e, hg, e2])⟩
            · have h1 := e g hg
              have h2 := HI6.out.blk.lt
              have h3 := HB6.out.size
              exact ⟨by omega, by omega⟩
          clear p6 p7 hrow hnb hJ5 hok hall C1 CW QR HROW
          simp only [List.zip_cons_cons, List.zip_nil_right, putsL]
          go_simp
          go_wp2_with (((with_reducible show wpList _ _ _ (Oper.mk _ (Op.store 69 _ _) _ _ _ _ :: _) _ _); refine wpList_storeB rfl 69 _ _ rfl bg 1 _ (.slice A2 (k + 1) c2) (by show 1 < 3; decide) rfl rfl HBK5.out (by kernel_rfl) rfl ?_))
          intro w7 hb7 hg7 hs7
          have HI7 : Hid (LogI w7 bg bp A2 c2 (k + 1)) := Lib.hid ⟨hb7.out, ⟨_, HR5.out.kept hg7.out (by
            cases hA : A2.map (·.block) with
            | none => exact .inl rfl
            | some g => exact .inr fun e => (HNB.out g hA).2 (by injection e)), fun u hu => by
            rcases List.mem_append.1 hu with hu | hu
            · exact HX1.out u hu
            · exact HX9.out.2 u hu⟩, fun e => (HNB.out bg e).2 rfl⟩
          have HB7 : Hid (Below w.heap.size w w7) := Lib.hid ((HB6.out.grown HG5.out HB6.out.size (fun j e => HN.out j e)).grown hg7.out (Nat.le_trans HB6.out.size HG5.out.size) (fun j e => by injection e with e; have := HBG.out; omega))
          clear hb7 hg7 hs7 HBK5 HR5 HG5
          go_wp2_with fail
          go_roundw
          case rel => exact ⟨k + 1, A2, c2, HLT.out, by go_num, HI7.out, fun g hg => (HNB.out g hg).1, HB7.out, HLN2.out⟩
          case measure => simp [intOf]; omega
    · obtain rfl : k = 16 := by omega
      have HFN : Hid ((logAt d.secs).length = 16) := Lib.hid (by rw [HL.out, HLN.out]; rfl)
      go_wp2_with fail
      go_ret2
      exact ⟨bg, Ae, ce, rfl, by rw [HFN.out]; exact HI.out, by rw [HBG.out]; exact Nat.le_refl _, HN.out, HB.out⟩
end Go.Proofs.YtjfpoahmjgeogaaGreatDoor
/- audit: Add. -/
namespace Nac.Img
theorem powered_surv (d : Dk) : d.powered.2.surv.length ≤ d.surv.length := by
  unfold Dk.powered
  split
  · exact Nat.le_refl _
  split
  · exact Nat.le_refl _
  split
  · exact Nat.zero_le _
  · exact Nat.le_refl _
theorem write_bounds (d : Dk) (p : Nat) (x : List UInt8) : (d.write p x).1.pend.length ≤ d.pend.length + 1 ∧ (d.write p x).1.surv.length ≤ d.surv.length ∧ ((d.write p x).2 = 0 ∨ (d.write p x).2 = 9) := by
  have h1 := powered_pend d
  have h2 := powered_surv d
  unfold Dk.write
  split
  · exact ⟨by show (d.powered.2.pend ++ [(p, x)]).length ≤ _; simp; exact h1, h2, .inl rfl⟩
  · exact ⟨by show d.powered.2.pend.length ≤ _; omega, h2, .inr rfl⟩
theorem flush_bounds (d : Dk) : d.flush.1.pend.length ≤ d.pend.length ∧ d.flush.1.surv.length ≤ d.surv.length ∧ (d.flush.2 = 0 ∨ d.flush.2 = 9) := by
  have h1 := powered_pend d
  have h2 := powered_surv d
  unfold Dk.flush
  split
  · exact ⟨Nat.zero_le _, h2, .inl rfl⟩
  · exact ⟨h1, h2, .inr rfl⟩
theorem put_one (d : Dk) (p : Nat) (x : List UInt8) : d.put [(p, x)] = if (d.write p x).2 = 0 then (d.write p x).1.flush else d.write p x := by
  unfold Dk.put
  have e : d.writes [(p, x)] = if (d.write p x).2 = 0 then ((d.write p x).1, 0) else d.write p x := rfl
  rw [e]
  by_cases h : (d.write p x).2 = 0
  · rw [if_pos h, if_pos h, if_pos rfl]
  · rw [if_neg h, if_neg h]
end Nac.Img
namespace Go.Proofs.YtjfpoahmjgeogaaGreatDoor
open Go.RowKit Nac Nac.Img Nac.Sha Nac.Crc
def obVD (B : Nat) (l : List UInt8) : VD := .pr (fun v w => ∃ A c, v = .slice A l.length c ∧ OB w B A c l) (fun _ _ _ ⟨A, c, h1, h2⟩ hb => ⟨A, c, h1, h2.below hb (Nat.le_refl _)⟩)
theorem RBn.of_ob {w : World} {O : Nat → Prop} {B c : Nat} {A : Option Addr} {l : List UInt8} (h : OB w B A c l) (ho : ∀ k, O k → k < B) : RBn w O A l := fun hne => by
  obtain ⟨b, o, hA, hb, hc⟩ := h.rb hne
  exact ⟨b, o, hA, hb, fun e => by have := ho b e; have := h.lt b (by rw [hA]; rfl); omega, hc⟩
def LogO (bg : Nat) (Ae : Option Addr) (k : Nat) : Prop := k = bg ∨ Ae.map (·.block) = some k
def RetAd (w : World) (bd : Nat) (O : Nat → Prop) (bg : Nat) (Ae : Option Addr) (r : Dk × Nat) (e : Ending) (w' : World) : Prop := e = .returned (.int .i64 (r.2 : Int)) ∧ ∃ O', DkM w' bd O' r.1 ∧ Upd (fun k => O k ∨ LogO bg Ae k) w w' O'
set_option maxRecDepth 100000 in
set_option maxHeartbeats 16000000 in
theorem aadd_calls (w : World) (hG : Gl w) (bg bp bd n : Nat) (Ae : Option Addr) (ce : Nat) (O : Nat → Prop) (d : Dk) (x : Ent) (hl : LogI w bg bp Ae ce n) (h : PartM w bp bd 24 16) (hd : DkM w bd O d) (hn : n ≤ 16) (es : List Ent) (hes : es.length = n)
    (hpd : d.pend = []) (hsv : d.surv.length ≤ 140737488351232) (hv : x.ver < 4294967296) (o1 : ¬ O bg) (o2 : ∀ g, Ae.map (·.block) = some g → ¬ O g) (o3 : ¬ O bp) (n1 : bp ≠ bg) (n2 : Ae.map (·.block) ≠ some bp) :
    Calls Tryz.prog 44 #[.pointer (some ⟨bg, 0, none⟩), .agg (ecells x).toArray] w (RetAd w bd O bg Ae (addF es d x).2) := by
  have HG := Lib.hid hG
  have HL := Lib.hid hl
  have HP := Lib.hid h
  have HD := Lib.hid (And.intro hd (And.intro hpd hsv))
  have HN := Lib.hid hn
  have HV := Lib.hid hv
  have HO : Hid (¬ O bg ∧ (∀ g, Ae.map (·.block) = some g → ¬ O g) ∧ ¬ O bp) := Lib.hid ⟨o1, o2, o3⟩
  have HNE : Hid (bp ≠ bg ∧ Ae.map (·.block) ≠ some bp) := Lib.hid ⟨n1, n2⟩
  have HVC : Hid (∀ w, Calls Tryz.prog 68 #[.agg (ecells x).toArray] w (fun e w' => e = .returned (.bool x.okB) ∧ Below w.heap.size w w')) := Lib.hid fun w => avalid_calls w x
  obtain ⟨r, hr⟩ : ∃ r, r = (addF es d x).2 := ⟨_, rfl⟩
  have HR : Hid (r = if x.okB = false then (d, 1) else if 16 ≤ n then (d, 5) else d.put [(24 + n, entSec n x)]) := Lib.hid (by
    rw [hr]
    unfold addF
    rw [hes]
    by_cases h1 : x.okB = false
    · rw [if_pos h1, if_pos h1]
    rw [if_neg h1, if_neg h1]
    by_cases h2 : 16 ≤ n
    · rw [if_pos h2, if_pos h2]
    rw [if_neg h2, if_neg h2]
    by_cases h3 : (d.put [(24 + n, entSec n x)]).2 = 0
    · simp only [h3, ne_eq, not_true, if_false]
      rw [← h3]
    · simp only [h3, ne_eq, not_false_eq_true, if_true])
  rw [← hr]
  obtain ⟨xs, hxs⟩ : ∃ xs, xs = ecells x := ⟨_, rfl⟩
  have HXS := Lib.hid hxs
  have HX4 : Hid (xs.length = 4 ∧ ∀ v ∈ xs, v.oneCell' = true) := Lib.hid (by rw [hxs]; exact ⟨rfl, ecells_one _⟩)
  rw [← hxs] at HVC ⊢
  clear hxs hr hG hl h hd hes hpd hsv hv o1 o2 o3 n1 n2
  go_enter Tryz.func44, Tryz.ntmps44
  go_wp2_with (((with_reducible show wpList _ _ _ (Oper.mk _ (Op.box 105 _) _ _ _ _ :: _) _ _); refine wpList_boxS rfl _ rfl xs (by rfl) ?_))
  intro w1 hb1 hg1 hs1
  obtain ⟨b3, hB3⟩ : ∃ b, b = w.heap.size := ⟨_, rfl⟩
  have HB3 := Lib.hid hB3
  rw [← hB3] at hb1 ⊢
  have HK1 := Lib.hid hb1
  have HE1 : Hid (Below w.heap.size w w1) := Lib.hid (gbelow hg1)
  have HL1 : Hid (LogI w1 bg bp Ae ce n) := Lib.hid (HL.out.below (gbelow hg1))
  have k1 : w1.cell? ⟨bg, 1, none⟩ = some (.slice Ae n ce) := HL1.out.blk.cell rfl
  have k2 : w1.cell? ⟨bg, 2, none⟩ = some (.bool false) := HL1.out.blk.cell rfl
  clear hb1 hg1 hs1 hB3
  go_wp2_with (((with_reducible show wpList _ _ _ (Oper.mk (some 18) (Op.load 105 _) _ _ _ _ :: _) _ _); refine wpList_loadS sEnt rfl _ rfl b3 xs rfl HK1.out HX4.out.1 ?_))
  go_at_call 68
  with_reducible refine (HVC.out w1).mono ?_
  rintro e w2 ⟨rfl, hb2⟩
  have HE2 : Hid (Below w.heap.size w w2) := Lib.hid (HE1.out.trans (hb2.mono HE1.out.size))
  have HL2 : Hid (LogI w2 bg bp Ae ce n) := Lib.hid (HL1.out.below hb2)
  have HK2 : Hid (Blk w2 b3 xs) := Lib.hid (HK1.out.below hb2 HK1.out.lt)
  clear hb2 HE1 HL1 HK1 k1 k2 HVC
  cases hok : x.okB with
  | false =>
    have HRR : Hid (r = (d, 1)) := Lib.hid (by rw [HR.out, if_pos hok])
    clear hok
    go_wp2_with fail
    go_ret
    exact ⟨by rw [HRR.out]; rfl, O, by rw [HRR.out]; exact HD.out.1.below HE2.out, (Upd.below HE2.out).to fun k hk => .inl (.inl hk)⟩
  | true =>
  have HOK := Lib.hid hok
  have k0 : w2.cell? ⟨bg, 0, none⟩ = some (.pointer (some ⟨bp, 0, none⟩)) := HL2.out.blk.cell rfl
  have HSZ : Hid (Calls Tryz.prog 26 #[.pointer (some ⟨bp, 0, none⟩)] w2 (fun e w' => e = .returned (.int .i64 16) ∧ w' = w2)) := Lib.hid (esize_calls w2 bp bd 24 16 (Blk.below HP.out HE2.out (Blk.lt HP.out)))
  clear hok
  go_wp2_with fail
  go_at_call 26
  with_reducible refine HSZ.out.mono ?_
  rintro e w2' ⟨rfl, rfl⟩
  clear HSZ k0
  by_cases h16 : 16 ≤ n
  · have HRR : Hid (r = (d, 5)) := Lib.hid (by rw [HR.out, if_neg (by rw [HOK.out]; decide), if_pos h16])
    have h16' : (16 : Int) ≤ (n : Int) := by omega
    clear h16
    go_wp2_with fail
    go_ret
    exact ⟨by rw [HRR.out]; rfl, O, by rw [HRR.out]; exact HD.out.1.below HE2.out, (Upd.below HE2.out).to fun k hk => .inl (.inl hk)⟩
  · have h16' : ¬ (16 : Int) ≤ (n : Int) := by omega
    have HN16 : Hid (n < 16) := Lib.hid (by omega)
    obtain ⟨S, hS⟩ : ∃ S, S = entSec n x := ⟨_, rfl⟩
    obtain ⟨d1, hd1⟩ : ∃ d1, d1 = (d.write (24 + n) S).1 := ⟨_, rfl⟩
    obtain ⟨c1, hc1⟩ : ∃ c1, c1 = (d.write (24 + n) S).2 := ⟨_, rfl⟩
    have HRR : Hid (r = if c1 = 0 then d1.flush else (d1, c1)) := Lib.hid (by rw [HR.out, if_neg (by rw [HOK.out]; decide), if_neg h16, put_one, ← hS, hd1, hc1])
    have HWB := Lib.hid (write_bounds d (24 + n) S)
    have HC1 : Hid (c1 = 0 ∨ c1 = 9) := Lib.hid (by rw [hc1]; exact (write_bounds d (24 + n) S).2.2)
    have HS64 : Hid (S.length = 64) := Lib.hid (by rw [hS]; unfold entSec sealB; simp [full_len, lbs_length])
    have SC : Hid (∀ w', Below w2'.drew.heap.size w2'.drew w' → Calls Tryz.prog 69 #[.int .i64 (n : Int), .agg xs.toArray] w' fun e w'' => ∃ v, e = .returned v ∧ (obVD w2'.heap.size S).ok v w'' ∧ Below w'.heap.size w' w'') := Lib.hid fun w' hb => by
      have hbb : Below w2'.heap.size w2' w' := ⟨hb.os, hb.tape, hb.output, hb.size, hb.block⟩
      have hbw : Below w.heap.size w w' := HE2.out.trans (hbb.mono HE2.out.size)
      rw [HXS.out]
      refine (asector_calls w' (HG.out.below' hbw) n x (by have := HN16.out; omega) HOK.out HV.out).mono ?_
      rintro e w'' ⟨A, c, rfl, h1, h2⟩
      rw [← hS] at h1 ⊢
      exact ⟨_, rfl, ⟨A, c, rfl, h1.mono hbb.size⟩, h2⟩
    obtain ⟨B8, hB8⟩ : ∃ B, B = w2'.heap.size := ⟨_, rfl⟩
    rw [← hB8] at SC
    have HB8 := Lib.hid hB8
    have C0 : Hid (∀ w', Below w2'.drew.heap.size w2'.drew w' → w'.cell? ⟨bg, 0, none⟩ = some (.pointer (some ⟨bp, 0, none⟩))) := Lib.hid fun w' hb => (HL2.out.blk.keep (hb.block bg HL2.out.blk.lt)).cell rfl
    have LX : Hid (∀ w', Below w2'.drew.heap.size w2'.drew w' → (Instr.loadAt 105 (.pointer (some ⟨b3, 0, none⟩))).run Tryz.prog w' = .ok (.agg xs.toArray) w') := Lib.hid fun w' hb => run_loadAtM sEnt w' b3 0 _ ((HK2.out.keep (hb.block b3 HK2.out.lt)).range 0 _ ⟨[], [], by simp, rfl⟩) HX4.out.1
    have HDC : Hid (d1 = (d.write (24 + n) S).1 ∧ c1 = (d.write (24 + n) S).2) := Lib.hid ⟨hd1, hc1⟩
    clear hS hd1 hc1 h16 hB8
    go_wp2_with fail
    refine region_tails 8 (fun ix9 => ([.is (.pointer (some ⟨bg, 0, none⟩)), .is (.pointer (some ⟨bg, 0, none⟩)), .is (.pointer (some ⟨bg, 0, none⟩)), .is (.pointer (some ⟨bp, 0, none⟩)), .is (.int .i64 (n : Int)), .is (.int .i64 (n : Int)), .is (.agg xs.toArray), obVD B8 S] : List VD).getD ix9 (.is undef)) [some 29, some 30, some 31, some 32, some 33, some 34, some 35, some 36] (by kernel_rfl) (by kernel_rfl) (by kernel_rfl) (by kernel_rfl) rfl (fun ii hii => ?_) ?_
    · match ii, hii with
      | 0, _ => exact mstep_first rfl (mwant_none rfl) 0 (Or.inl rfl) (by kernel_rfl) (fun _ _ => rfl)
      | 1, _ => exact mstep_pure rfl (mwant_none rfl) (fun aa ww cc => ⟨.pointer (some ⟨bg, 0, none⟩), by have e0 : aa.tmps.getD 29 undef = .pointer (some ⟨bg, 0, none⟩) := cc.slot 0 29 (by kernel_rfl) rfl; simp only [execOp, Act.eval]; go_simp, rfl⟩)
      | 2, _ => exact mstep_pure rfl (mwant_none rfl) (fun aa ww cc => ⟨.pointer (some ⟨bg, 0, none⟩), by have e0 : aa.tmps.getD 30 undef = .pointer (some ⟨bg, 0, none⟩) := cc.slot 1 30 (by kernel_rfl) rfl; simp only [execOp, Act.eval]; go_simp, rfl⟩)
      | 3, _ => exact mstep_pure rfl (mwant_none rfl) (fun aa ww cc => ⟨.pointer (some ⟨bp, 0, none⟩), by have e0 : aa.tmps.getD 31 undef = .pointer (some ⟨bg, 0, none⟩) := cc.slot 2 31 (by kernel_rfl) rfl; have q := C0.out _ cc.below; simp only [execOp, Act.eval]; go_simp, rfl⟩)
      | 4, _ => exact mstep_first rfl (mwant_none rfl) 5 (Or.inl rfl) (by kernel_rfl) (fun _ _ => rfl)
      | 5, _ => exact mstep_first rfl (mwant_none rfl) 5 (Or.inl rfl) (by kernel_rfl) (fun _ _ => rfl)
      | 6, _ => exact mstep_loadI rfl (mwant_none rfl) 3 _ rfl (by kernel_rfl) _ _ rfl rfl (fun w hb => LX.out w hb)
      | 7, _ => exact mstep_call rfl (mwant_none rfl) _ _ _ rfl (enters_of Tryz.func69 (by kernel_rfl) rfl) (fun aa ww cc => by have e0 : aa.tmps.getD 34 undef = .int .i64 (n : Int) := cc.slot 5 34 (by kernel_rfl) rfl; have e1 : aa.tmps.getD 35 undef = .agg xs.toArray := cc.slot 6 35 (by kernel_rfl) rfl; simp only [List.map_toArray, List.map_cons, List.map_nil, Act.eval, e0, e1]; exact SC.out ww cc.below)
      | n + 8, h => exact absurd h (by show ¬ (n + 8 < 8); omega)
    · intro VV w5 hlen hb5 hok
      match VV, hlen with
      | [v0, v1, v2, v3, v4, v5, v6, v7], _ =>
        obtain rfl : v0 = .pointer (some ⟨bg, 0, none⟩) := hok 0 29 rfl
        obtain rfl : v1 = .pointer (some ⟨bg, 0, none⟩) := hok 1 30 rfl
        obtain rfl : v2 = .pointer (some ⟨bg, 0, none⟩) := hok 2 31 rfl
        obtain rfl : v3 = .pointer (some ⟨bp, 0, none⟩) := hok 3 32 rfl
        obtain rfl : v4 = .int .i64 (n : Int) := hok 4 33 rfl
        obtain rfl : v5 = .int .i64 (n : Int) := hok 5 34 rfl
        obtain rfl : v6 = .agg xs.toArray := hok 6 35 rfl
        have p7 := hok 7 36 rfl
        obtain ⟨A7, c7, rfl, ho7⟩ : ∃ A c, v7 = .slice A S.length c ∧ OB w5 B8 A c S := p7
        have hb5' : Below w2'.heap.size w2' w5 := ⟨hb5.os, hb5.tape, hb5.output, hb5.size, hb5.block⟩
        have HE5 : Hid (Below w.heap.size w w5) := Lib.hid (HE2.out.trans (hb5'.mono HE2.out.size))
        have HL5 : Hid (LogI w5 bg bp Ae ce n) := Lib.hid (HL2.out.below hb5')
        have HK5 : Hid (Blk w5 b3 xs) := Lib.hid (HK2.out.below hb5' HK2.out.lt)
        have HWR : Hid (Calls Tryz.prog 65 #[.pointer (some ⟨bp, 0, none⟩), .int .i64 (n : Int), .slice A7 64 c7] w5 (RetDN w5 bd O d1 (.int .i64 (c1 : Int)))) := Lib.hid (by
          have := ewrite_calls w5 bp bd 24 16 n O d A7 c7 S (Blk.below HP.out HE5.out (Blk.lt HP.out)) (HD.out.1.below HE5.out) HN16.out (by decide) HS64.out (RBn.of_ob ho7 fun k hk => by rw [HB8.out]; exact Nat.lt_of_lt_of_le (HD.out.1.own k hk) HE2.out.size) (by rw [HD.out.2.1]; exact Nat.zero_le _) (by have := HD.out.2.2; omega)
          rw [← HDC.out.1, ← HDC.out.2] at this
          exact this)
        rw [HS64.out]
        clear ho7 hb5 hb5' hok SC C0 LX HL2 HK2 HE2
        simp only [List.zip_cons_cons, List.zip_nil_right, putsL]
        go_simp
        go_wp2_with fail
        go_at_call 65
        with_reducible refine HWR.out.mono ?_
        rintro e w6 ⟨rfl, O1, hdk6, hup6⟩
        have HU6 : Hid (Upd O w w6 O1) := Lib.hid ((Upd.below HE5.out).trans hup6)
        have HD6 := Lib.hid hdk6
        have HL6 : Hid (LogI w6 bg bp Ae ce n) := Lib.hid (HL5.out.upd hup6 HO.out.1 HO.out.2.1)
        have HK6 : Hid (Blk w6 b3 xs) := Lib.hid (hup6.blk HK5.out (fun e => by have := HD.out.1.own b3 e; have := HB3.out; omega))
        have HO6 : Hid (¬ O1 bg ∧ (∀ g, Ae.map (·.block) = some g → ¬ O1 g) ∧ ¬ O1 b3) := Lib.hid ⟨hup6.out HL5.out.blk.lt HO.out.1, fun g hg => hup6.out (HL5.out.lt g hg) (HO.out.2.1 g hg), hup6.out HK5.out.lt (fun e => by have := HD.out.1.own b3 e; have := HB3.out; omega)⟩
        have HP6 : Hid (PartM w6 bp bd 24 16) := Lib.hid (hup6.blk (Blk.below HP.out HE5.out (Blk.lt HP.out)) HO.out.2.2)
        -- a block of the log is written
        have HUB : Hid (∀ w', w6.grownBy w' (some bg) → Upd (fun k => O k ∨ LogO bg Ae k) w w' O1) := Lib.hid fun w' hg => ((HU6.out.wider (LogO bg Ae)).trans (Upd.grown hg (fun k e => by injection e with e; exact .inr (.inl e.symm)))).to fun k hk => .inl (.inl hk)
        have HDB : Hid (∀ w', w6.grownBy w' (some bg) → DkM w' bd O1 d1) := Lib.hid fun w' hg => HD6.out.same (fun k hk => hg.block k (HD6.out.own k hk) (by simp; exact fun e => HO6.out.1 (e ▸ hk))) hg.size
        clear hdk6 hup6 HWR HL5 HK5 HE5
        rcases HC1.out with rfl | rfl
        · -- written
          have HR0 : Hid (r = d1.flush) := Lib.hid (by rw [HRR.out, if_pos rfl])
          have k0 : w6.cell? ⟨bg, 0, none⟩ = some (.pointer (some ⟨bp, 0, none⟩)) := HL6.out.blk.cell rfl
          obtain ⟨d2, hd2⟩ : ∃ d2, d2 = d1.flush.1 := ⟨_, rfl⟩
          obtain ⟨c2, hc2⟩ : ∃ c2, c2 = d1.flush.2 := ⟨_, rfl⟩
          have HR2 : Hid (r.1 = d2 ∧ r.2 = c2) := Lib.hid (by rw [HR0.out, hd2, hc2]; exact ⟨rfl, rfl⟩)
          have HC2 : Hid (c2 = 0 ∨ c2 = 9) := Lib.hid (by rw [hc2]; exact (flush_bounds d1).2.2)
          have HFL : Hid (Calls Tryz.prog 66 #[.pointer (some ⟨bp, 0, none⟩)] w6 (RetD w6 bd O1 d2 (.int .i64 (c2 : Int)))) := Lib.hid (by
            rw [hd2, hc2]
            have hb := HWB.out
            rw [← HDC.out.1] at hb
            exact eflush_calls w6 bp bd 24 16 O1 d1 HP6.out HD6.out (by rw [HD.out.2.1] at hb; have := hb.1; simp at this; omega) (by have := hb.2.1; have := HD.out.2.2; omega))
          clear hd2 hc2
          go_wp2_with fail
          go_at_call 66
          with_reducible refine HFL.out.mono ?_
          rintro e w7 ⟨rfl, hdk7, hup7⟩
          have HU7 : Hid (Upd O w w7 O1) := Lib.hid (HU6.out.trans hup7)
          have HD7 := Lib.hid hdk7
          have HL7 : Hid (LogI w7 bg bp Ae ce n) := Lib.hid (HL6.out.upd hup7 HO6.out.1 HO6.out.2.1)
          have HK7 : Hid (Blk w7 b3 xs) := Lib.hid (hup7.blk HK6.out HO6.out.2.2)
          have HNB3 : Hid (bg < b3 ∧ ∀ g, Ae.map (·.block) = some g → g < b3) := Lib.hid (by rw [HB3.out]; exact ⟨HL.out.blk.lt, HL.out.lt⟩)
          have HUR : Hid (∀ w8 w', w7.grownBy w8 (Ae.map (·.block)) → w8.grownBy w' (some bg) → Upd (fun k => O k ∨ LogO bg Ae k) w w' O1 ∧ DkM w' bd O1 d2) := Lib.hid fun w8 w' hg hg' => ⟨((((HU7.out.wider (LogO bg Ae)).trans (Upd.grown hg (fun k e => .inr (.inr e)))).trans (Upd.grown hg' (fun k e => by injection e with e; exact .inr (.inl e.symm))))).to fun k hk => .inl (.inl hk),
            (HD7.out.same (fun k hk => hg.block k (HD7.out.own k hk) (fun e => HO6.out.2.1 k e.symm hk)) hg.size).same (fun k hk => hg'.block k (Nat.lt_of_lt_of_le (HD7.out.own k hk) hg.size) (by simp; exact fun e => HO6.out.1 (e ▸ hk))) hg'.size⟩
          clear hdk7 hup7 HFL HL6 HK6 HP6 HUB HDB k0
          rcases HC2.out with rfl | rfl
          · obtain ⟨XS, hXS, _⟩ := HL7.out.row
            have QR := Lib.hid hXS
            have HROW : Hid (∀ j, Ae.map (·.block) = some j → j < w7.heap.size) := Lib.hid HL7.out.lt
            have C1 : Hid (∀ w', w7.grownBy w' (Ae.map (·.block)) → w'.cell? ⟨bg, 1, none⟩ = some (.slice Ae n ce)) := Lib.hid fun w' hg => (HL7.out.blk.grown hg HL7.out.ne).cell rfl
            have CW : Hid (∀ w', w7.grownBy w' (Ae.map (·.block)) → (Instr.loadAt 105 (.pointer (some ⟨b3, 0, none⟩))).run Tryz.prog w' = .ok (.agg xs.toArray) w') := Lib.hid fun w' hg => run_loadAtM sEnt w' b3 0 _ ((HK7.out.grown hg (fun e => by have := HNB3.out.2 b3 e; omega)).range 0 _ ⟨[], [], by simp, rfl⟩) HX4.out.1
            clear hXS
            go_wp2_with fail
            refine region_relL 8 (AppR (Ae.map (·.block)) 7) (fun ix9 => ([.is (.pointer (some ⟨bg, 0, none⟩)), .is (.pointer (some ⟨bg, 0, none⟩)), .is (.pointer (some ⟨bg, 0, none⟩)), .is (.pointer (some ⟨bg, 1, none⟩)), .is (.slice Ae n ce), .is (.agg xs.toArray), .pr (BuiltN w7 xs), .pr (AppedN w7 105 4 Ae n XS xs)] : List LD).getD ix9 (.is undef)) [some 51, some 52, some 53, some 54, some 55, some 56, some 57, some 58] (AppJ w7 (Ae.map (·.block)) 7) (fun ii hii => ?_) (AppR.refl _ 7) (by kernel_rfl) (by kernel_rfl) (by kernel_rfl) (by kernel_rfl) rfl (AppJ.start w7 _ 7) (fun ii hii => ?_) ?_
            · match ii, hii with
              | 0, _ => exact LD.keeps_is _ _ _
              | 1, _ => exact LD.keeps_is _ _ _
              | 2, _ => exact LD.keeps_is _ _ _
              | 3, _ => exact LD.keeps_is _ _ _
              | 4, _ => exact LD.keeps_is _ _ _
              | 5, _ => exact LD.keeps_is _ _ _
              | 6, _ => exact keep_builtN 6 _ HROW.out
              | 7, _ => exact keep_appedN _ _ _ _ _ _
              | n + 8, h => exact absurd h (by show ¬ (n + 8 < 8); omega)
            · match ii, hii with
              | 0, _ => exact lstep_first (AppR.refl _ 7) rfl (lwant_none rfl) (AppJ.pure (by decide)) 0 (Or.inl rfl) (by kernel_rfl) (fun _ => rfl)
              | 1, _ => exact lstep_first (AppR.refl _ 7) rfl (lwant_none rfl) (AppJ.pure (by decide)) 0 (Or.inl rfl) (by kernel_rfl) (fun _ => rfl)
              | 2, _ => exact lstep_pure (AppR.refl _ 7) rfl (lwant_none rfl) (AppJ.pure (by decide)) (fun LL aa ww cc => ⟨.pointer (some ⟨bg, 0, none⟩), by have e0 : aa.tmps.getD 52 undef = .pointer (some ⟨bg, 0, none⟩) := cc.slot 1 52 (by kernel_rfl) rfl; simp only [execOp, Act.eval]; go_simp, rfl⟩)
              | 3, _ => exact lstep_pure (AppR.refl _ 7) rfl (lwant_none rfl) (AppJ.pure (by decide)) (fun LL aa ww cc => ⟨.pointer (some ⟨bg, 1, none⟩), by have e0 : aa.tmps.getD 53 undef = .pointer (some ⟨bg, 0, none⟩) := cc.slot 2 53 (by kernel_rfl) rfl; simp only [execOp, Act.eval]; go_simp, rfl⟩)
              | 4, _ => exact lstep_pure (AppR.refl _ 7) rfl (lwant_none rfl) (AppJ.pure (by decide)) (fun LL aa ww cc => ⟨.slice Ae n ce, by have e0 : aa.tmps.getD 54 undef = .pointer (some ⟨bg, 1, none⟩) := cc.slot 3 54 (by kernel_rfl) rfl; have q := C1.out _ cc.world.1; simp only [execOp, Act.eval]; go_simp, rfl⟩)
              | 5, _ => exact lstep_loadI ((AppR.refl _ 7)) rfl (lwant_none rfl) (AppJ.pure (by decide)) 3 _ rfl (by kernel_rfl) _ _ rfl rfl (fun _ w hb => CW.out w hb.1)
              | 6, _ => exact lstep_buildN (by decide) rfl (lwant_none rfl) 56 rfl xs (fun w => build1_agg Tryz.underlying69 infoEn (by decide) (by decide) xs HX4.out.1 w) (fun LL aa ww cc => cc.slot 5 56 (by kernel_rfl) rfl) rfl
              | 7, _ => exact lstep_appN Tryz.underlying69 infoEn (by kernel_rfl) (by decide) (by decide) rfl (lwant_none rfl) 55 57 rfl Ae ce n XS xs rfl QR.out HX4.out.1 HX4.out.2 (by have := HN16.out; omega) (fun LL aa ww cc => cc.slot 4 55 (by kernel_rfl) rfl) (fun LL aa ww cc => cc.slot 6 57 (by kernel_rfl) rfl) rfl
              | n + 8, h => exact absurd h (by show ¬ (n + 8 < 8); omega)
            · intro L9 VV w5 hall hlen hJ5 hok
              match VV, hlen with
              | [v0, v1, v2, v3, v4, v5, v6, v7], _ =>
                obtain rfl : v0 = .pointer (some ⟨bg, 0, none⟩) := hok 0 51 rfl
                obtain rfl : v1 = .pointer (some ⟨bg, 0, none⟩) := hok 1 52 rfl
                obtain rfl : v2 = .pointer (some ⟨bg, 0, none⟩) := hok 2 53 rfl
                obtain rfl : v3 = .pointer (some ⟨bg, 1, none⟩) := hok 3 54 rfl
                obtain rfl : v4 = .slice Ae n ce := hok 4 55 rfl
                obtain rfl : v5 = .agg xs.toArray := hok 5 56 rfl
                have p6 := hok 6 57 rfl
                have p7 := hok 7 58 rfl
                have p7' : AppedN w7 105 4 Ae n XS xs v7 w5 := p7
                obtain ⟨A2, c2, rfl, hrow, hnb⟩ := p7'
                have HG5 : Hid (w7.grownBy w5 (Ae.map (·.block))) := Lib.hid hJ5.1
                have HBK5 : Hid (Blk w5 bg [.pointer (some ⟨bp, 0, none⟩), .slice Ae n ce, .bool false]) := Lib.hid (HL7.out.blk.grown hJ5.1 HL7.out.ne)
                clear p6 p7 hrow hnb hJ5 hok hall C1 CW QR HROW
                simp only [List.zip_cons_cons, List.zip_nil_right, putsL]
                go_simp
                go_wp2_with (((with_reducible show wpList _ _ _ (Oper.mk _ (Op.store 69 _ _) _ _ _ _ :: _) _ _); refine wpList_storeB rfl 69 _ _ rfl bg 1 _ (.slice A2 (n + 1) c2) (by show 1 < 3; decide) rfl rfl HBK5.out (by kernel_rfl) rfl ?_))
                intro w8 hb8 hg8 hs8
                have HRES : Hid (RetAd w bd O bg Ae r (.returned (.int .i64 0)) w8) := Lib.hid (by
                  have h := HUR.out w5 w8 HG5.out hg8.out
                  exact ⟨by rw [HR2.out.2]; rfl, O1, by rw [HR2.out.1]; exact h.2, h.1⟩)
                clear hb8 hg8 hs8 HBK5 HG5
                go_wp2_with fail
                go_ret
                exact HRES.out
          · go_wp2_with (((with_reducible show wpList _ _ _ (Oper.mk _ (Op.store 4 _ _) _ _ _ _ :: _) _ _); refine wpList_storeB rfl 4 _ _ rfl bg 2 _ (.bool true) (by show 2 < 3; decide) rfl rfl HL7.out.blk (by kernel_rfl) rfl ?_))
            intro w8 hb8 hg8 hs8
            have HRES : Hid (RetAd w bd O bg Ae r (.returned (.int .i64 9)) w8) := Lib.hid (by
              have h := HUR.out w7 w8 (World.grownBy.refl w7 _) hg8.out
              exact ⟨by rw [HR2.out.2]; rfl, O1, by rw [HR2.out.1]; exact h.2, h.1⟩)
            clear hb8 hg8 hs8
            go_wp2_with fail
            go_ret
            exact HRES.out
        · -- the power failed
          have HR9 : Hid (r = (d1, 9)) := Lib.hid (by rw [HRR.out, if_neg (by decide)])
          go_wp2_with (((with_reducible show wpList _ _ _ (Oper.mk _ (Op.store 4 _ _) _ _ _ _ :: _) _ _); refine wpList_storeB rfl 4 _ _ rfl bg 2 _ (.bool true) (by show 2 < 3; decide) rfl rfl HL6.out.blk (by kernel_rfl) rfl ?_))
          intro w7 hb7 hg7 hs7
          have HRES : Hid (RetAd w bd O bg Ae r (.returned (.int .i64 9)) w7) := Lib.hid ⟨by rw [HR9.out]; rfl, O1, by rw [HR9.out]; exact HDB.out w7 hg7.out, HUB.out w7 hg7.out⟩
          clear hb7 hg7 hs7
          go_wp2_with fail
          go_ret
          exact HRES.out
end Go.Proofs.YtjfpoahmjgeogaaGreatDoor
/- audit: Entries; a clone of entries: only their number counts. -/
namespace Go.Proofs.YtjfpoahmjgeogaaGreatDoor
open Go.RowKit Nac Nac.Img Nac.Sha Nac.Crc
theorem build0_ent (w : World) : (Instr.buildSlice 69 0 #[]).run Tryz.prog w = .ok (.slice (some ⟨w.heap.size, 0, none⟩) 0 0) (w.alloc (.cells #[] 105)) := by
  obtain ⟨ti, hi, hz, hs1, hb1⟩ := info_parts infoEn
  have hu := Tryz.underlying69
  have hc1 : (sizeOf 105).run Tryz.prog w = .ok 4 w := by simp [sizeOf, typeInfo, hi, hs1]
  have e : (Array.map (fun _ : Nat => (default : Value)) (Array.range 0)) = #[] := by kernel_rfl
  have hn : (newRow 105 #[]).run Tryz.prog w = .ok ⟨w.heap.size, 0, none⟩ (w.alloc (.cells #[] 105)) := by simp [newRow]
  simp only [Instr.buildSlice, Sem.run_bind, run_underlying hu, Result.andThen_ok, hc1]
  simp [Instr.fill, e, hn]
def RetN (w : World) (n : Nat) (e : Ending) (w' : World) : Prop := ∃ A c, e = .returned (.slice A n c) ∧ Below w.heap.size w w'
set_option maxRecDepth 100000 in
set_option maxHeartbeats 4000000 in
theorem clone_ent (w : World) (A : Option Addr) (c n : Nat) (xs : List Value) (h : Row w 105 4 A c n xs) (h1 : ∀ u ∈ xs, u.oneCell' = true) (hn : n ≤ 1000) : Calls Tryz.prog 62 #[.slice A n c] w (RetN w n) := by
  rcases h.2 with ⟨hv, hn0⟩ | ⟨g, cap, cur, hv, _, hg, _⟩
  · injection hv with e1 e2 e3
    subst e1 e2 e3
    go_enter Tryz.func62, Tryz.ntmps62
    go_wp2_with (((with_reducible show wpList _ _ _ (Oper.mk _ (Op.binOp BinOp.eql 69 _ _ _) _ _ _ _ :: _) _ _); refine wpList_binV (by rfl) _ _ _ _ _ rfl (.bool true) (by exact run_eqnil Tryz.underlying69 _ _ none 0 0 _) ?_))
    go_ret
    exact ⟨none, 0, rfl, Below.refl _ _⟩
  · injection hv with e1 e2 e3
    subst e1
    have hb0 := build0_ent
    have HROW := Lib.hid h
    have HS0 : Hid (Src (w.alloc (.cells #[] 105)) (some ⟨g, 0, none⟩) xs) := Lib.hid fun hne => by
      refine ⟨_, rfl, fun j u hj => ?_⟩
      obtain ⟨hj1, hj2⟩ := List.getElem?_eq_some_iff.1 hj
      obtain ⟨g2, hA2, hlt, hc, _⟩ := HROW.out.at hj1
      injection hA2 with hA2
      injection hA2 with hA2
      subst hA2
      rw [Addr.add_mid, Nat.zero_add, ← hj2, ← hc]
      exact ((Below.refl w.heap.size w).alloc (Nat.le_refl _) _).cell hlt
    have H1 := Lib.hid h1
    have HN := Lib.hid hn
    clear h h1 hn hg e2 e3
    go_enter Tryz.func62, Tryz.ntmps62
    go_wp2_with (first | ((with_reducible show wpList _ _ _ (Oper.mk _ (Op.binOp BinOp.eql 69 _ _ _) _ _ _ _ :: _) _ _); refine wpList_binV (by rfl) _ _ _ _ _ rfl (.bool false) (by exact run_eqnil Tryz.underlying69 _ _ (some ⟨g, 0, none⟩) n c _) ?_) | ((with_reducible show wpList _ _ _ (Oper.mk _ (Op.call (Call.mk (Callee.builtin Builtin.append) _ _)) _ _ _ _ :: _) _ _); refine wpList_app _ rfl _ _ 69 rfl w.heap.size 105 _ 4 32 Tryz.underlying69 infoEn rfl (by decide) (some ⟨w.heap.size, 0, none⟩) 0 0 [] rfl ⟨rfl, .inr ⟨w.heap.size, 0, #[], rfl, Nat.le_refl _, heap_alloc_new w _, Nat.le_refl _, Nat.zero_le _, rfl, rfl⟩⟩ (some ⟨g, 0, none⟩) n c xs rfl HROW.out.len HS0.out H1.out (by have := HN.out; omega) (by have := HN.out; unfold maxLen; omega) (by simp) ?_))
    intro A5 c5 w5 hr5 hg5 hb5
    have hwa : Below w.heap.size w (w.alloc (.cells #[] 105)) := (Below.refl w.heap.size w).alloc (Nat.le_refl _) _
    have HR : Hid (Below w.heap.size w w5) := Lib.hid (hwa.grown hg5 hwa.size (fun k e => by
      have e : w.heap.size = k := by simpa using e
      omega))
    clear hr5 hg5 hb5 hwa
    go_wp2_with fail
    go_ret
    exact ⟨A5, c5, by first | rfl | (rw [Nat.zero_add]; rfl), HR.out⟩
set_option maxRecDepth 100000 in
set_option maxHeartbeats 1000000 in
theorem aentries_calls (w : World) (bg bp n : Nat) (Ae : Option Addr) (ce : Nat) (hl : LogI w bg bp Ae ce n) (hn : n ≤ 1000) : Calls Tryz.prog 40 #[.pointer (some ⟨bg, 0, none⟩)] w (RetN w n) := by
  have k1 : w.cell? ⟨bg, 1, none⟩ = some (.slice Ae n ce) := hl.blk.cell rfl
  obtain ⟨xs, hr, h1⟩ := hl.row
  have HC := Lib.hid (clone_ent w Ae ce n xs hr h1 hn)
  clear hl hr h1
  go_enter Tryz.func40, Tryz.ntmps40
  go_wp2_with fail
  go_at_call 62
  with_reducible refine HC.out.mono ?_
  rintro e w2 ⟨A2, c2, rfl, hb2⟩
  have HB := Lib.hid hb2
  clear hb2 HC k1
  go_wp2_with fail
  go_ret
  exact ⟨A2, c2, rfl, HB.out⟩
/- loader: sector, headSector, firstSector, dataSector, bankAt. -/
set_option maxRecDepth 100000 in
set_option maxHeartbeats 8000000 in
theorem sector_calls (w : World) (hG : Gl w) (x : UInt8) (g : Nat) (hg : g < 4294967296) (A : Option Addr) (n c : Nat) (l : List UInt8) (hn : n = l.length) (hA : RB w w.heap.size A l) (hl : n ≤ 55) :
    Calls Tryz.prog 90 #[bv x, .int .u32 (g : Int), .slice A n c] w (RetPut w (secB x g l)) := by
  have HG := Lib.hid hG
  have HA := Lib.hid hA
  have HN := Lib.hid (And.intro hn hl)
  obtain ⟨P1, hP1⟩ : ∃ P, P = lbs g 4 := ⟨_, rfl⟩
  have HP4 : Hid (P1.length = 4) := Lib.hid (by rw [hP1]; exact lbs_length _ _)
  obtain ⟨E, hE⟩ : ∃ E, E = secB x g l := ⟨_, rfl⟩
  have HE : Hid (E = sealedB (full ([x] ++ P1 ++ l))) := Lib.hid (by rw [hE, hP1, sealed_img]; unfold secB; simp)
  have HC1 : Hid (∀ w, Calls Tryz.prog 91 #[.int .u64 (g : Int), .int .i64 4] w (RetPut w P1)) := Lib.hid fun w => by rw [hP1]; exact put_ret w g 4 (by decide) (by decide)
  have w1' : IntKind.u64.wrap (g : Int) = (g : Int) := by rw [IntKind.wrap_u64]; omega
  have w2' : (g : Int) % 18446744073709551616 = (g : Int) := by omega
  obtain ⟨xv, hxv⟩ : ∃ xv, xv = bv x := ⟨_, rfl⟩
  have HXV := Lib.hid hxv
  rw [← hE, ← hxv]
  clear hG hA hn hl hP1 hE hg hxv
  go_enter Tryz.func90, Tryz.ntmps90
  go_wp2_with (((with_reducible show wpList _ _ _ (Oper.mk _ (Op.buildSlice 36 _ _) _ _ _ _ :: _) _ _); refine wpList_byte1O rfl _ rfl x HXV.out w.heap.size (Nat.le_refl _) ?_))
  intro w1 ho1 hg1 hs1
  obtain ⟨A1, hA1⟩ : ∃ A : Option Addr, A = some ⟨w.heap.size, 0, none⟩ := ⟨_, rfl⟩
  obtain ⟨l1, hl1⟩ : ∃ l : List UInt8, l = [x] := ⟨_, rfl⟩
  rw [← hA1, ← hl1] at ho1
  rw [← hA1]
  have H1 : Hid (BS w A1 1 l1 w1) := Lib.hid ⟨ho1, gbelow hg1⟩
  have HL1 := Lib.hid hl1
  clear ho1 hg1 hs1 hA1 hl1
  go_wp2_with fail
  go_at_call 91
  with_reducible refine (HC1.out w1).mono ?_
  rintro e w2 ⟨A2, c2, rfl, ho2, hb2⟩
  have HR2 := Lib.hid ho2.rb
  have H2 : Hid (BS w A1 1 l1 w2) := Lib.hid (H1.out.below hb2)
  clear ho2 hb2 H1 HC1
  go_wp2_with (((with_reducible show wpList _ _ _ (Oper.mk _ (Op.call (Call.mk (Callee.builtin Builtin.append) _ _)) _ _ _ _ :: _) _ _); refine wpList_app_bytes _ rfl _ _ rfl w.heap.size A1 1 l1 1 rfl (by rw [HL1.out]; rfl) H2.out.ob A2 c2 P1 P1.length (by rfl) rfl HR2.out (by rw [HL1.out, HP4.out]; show 1 + 4 ≤ _; omega) H2.out.bel.size ?_))
  intro A3 c3 l3 w3 hl3 ho3 hg3 hx3
  have H3 : Hid (BS w A3 c3 l3 w3) := Lib.hid (H2.out.app ho3 hg3)
  have HL3 := hl3
  have HB3 : Hid (l3.length = 5) := Lib.hid (by rw [hl3.out, List.length_append, HL1.out, HP4.out]; rfl)
  have HR3 : Hid (RB w3 w3.heap.size A l) := Lib.hid ((HA.out.below H3.out.bel).mono H3.out.bel.size)
  clear hl3 ho3 hg3 hx3 H2 HR2
  go_wp2_with (((with_reducible show wpList _ _ _ (Oper.mk _ (Op.call (Call.mk (Callee.builtin Builtin.append) _ _)) _ _ _ _ :: _) _ _); refine wpList_app_bytes _ rfl _ _ rfl w.heap.size A3 c3 l3 l3.length rfl rfl H3.out.ob A c l n (by rfl) HN.out.1 HR3.out (by rw [HB3.out, ← HN.out.1]; have := HN.out.2; omega) H3.out.bel.size ?_))
  intro A4 c4 l4 w4 hl4 ho4 hg4 hx4
  have H4 : Hid (BS w A4 c4 l4 w4) := Lib.hid (H3.out.app ho4 hg4)
  have HL4 := hl4
  have HB4 : Hid (l4.length ≤ 60) := Lib.hid (by rw [hl4.out, List.length_append, HB3.out, ← HN.out.1]; have := HN.out.2; omega)
  obtain ⟨zs, hzs⟩ : ∃ zs, zs = List.replicate 60 (Value.int .u8 0) := ⟨_, rfl⟩
  have HZS := Lib.hid hzs
  have HZ60 : Hid (zs.length = 60) := Lib.hid (by rw [hzs]; rfl)
  clear hl4 ho4 hg4 hx4 H3 HR3 hzs
  go_wp2_with (((with_reducible show wpList _ _ _ (Oper.mk _ (Op.makeSlice 36 _ _) _ _ _ _ :: _) _ _); refine wpList_makeZ Tryz.underlying36 Tryz.infoByte rfl (by decide) rfl _ _ rfl 60 (by decide) rfl rfl zs HZS.out ?_))
  intro w5 hb5 hg5 hs5
  obtain ⟨g5, hg5'⟩ : ∃ g, g = w4.heap.size := ⟨_, rfl⟩
  rw [← hg5'] at hb5 ⊢
  have HB5 := Lib.hid hb5
  have HR5 : Hid (RB w5 w5.heap.size A4 l4) := Lib.hid ((H4.out.ob.rb.below (gbelow hg5)).mono (gbelow hg5).size)
  have HE5 : Hid (Below w.heap.size w w5 ∧ w.heap.size ≤ g5) := Lib.hid ⟨H4.out.bel.trans ((gbelow hg5).mono H4.out.bel.size), by rw [hg5']; exact H4.out.bel.size⟩
  clear hb5 hg5 hs5 hg5' H4
  go_wp2_with (((with_reducible show wpList _ _ _ (Oper.mk _ (Op.call (Call.mk (Callee.builtin Builtin.copy) _ _)) _ _ _ _ :: _) _ _); refine wpList_copyR rfl _ _ rfl g5 0 60 60 zs A4 l4.length c4 l4 rfl (by rfl) rfl HB5.out HB4.out (by rw [HZ60.out]; have := HB4.out; omega) HR5.out ?_))
  intro w6 hb6 hg6
  obtain ⟨F, hF⟩ : ∃ F, F = full l4 := ⟨_, rfl⟩
  have HB6 : Hid (Blk w6 g5 (F.map bv)) := Lib.hid (by
    have := hb6.out
    have e : zs.take 0 ++ l4.map bv ++ zs.drop (0 + l4.length) = F.map bv := by
      rw [hF]
      exact full_cells l4 HB4.out zs HZS.out
    rw [← e]
    simpa using this)
  have HE6 : Hid (Below w.heap.size w w6) := Lib.hid (HE5.out.1.grown hg6.out HE5.out.1.size (fun j e => by injection e with e; have := HE5.out.2; omega))
  have HF60 : Hid (F.length = 60) := Lib.hid (by rw [hF]; exact full_len _)
  have HEF : Hid (E = sealedB F) := Lib.hid (by rw [HE.out, hF, HL4.out, HL3.out, HL1.out])
  have HSL : Hid (Calls Tryz.prog 93 #[.slice (some ⟨g5, 0, none⟩) 60 60] w6 (RetOB w6 (sealedB F))) := Lib.hid (by
    have hG := HG.out.below' HE6.out
    have := seal_calls w6 w6.heap.size (some ⟨g5, 0, none⟩) 60 F hG.nib (by have := hG.size; show 4 < _; omega) (fun _ => ⟨g5, 0, rfl, HB6.out.lt, fun j hj => by
      rw [Nat.zero_add]
      refine HB6.out.cell ?_
      rw [List.getElem?_map, List.getElem?_eq_getElem hj]
      rfl⟩) (Nat.le_refl _) (by rw [HF60.out]; decide)
    rw [HF60.out] at this
    exact this)
  clear hb6 hg6 hF HB5 HR5 HE5
  go_wp2_with fail
  go_at_call 93
  with_reducible refine HSL.out.mono ?_
  rintro e w7 ⟨A7, c7, rfl, ho7, hb7⟩
  have HRES : Hid (RetPut w E (.returned (.slice A7 (sealedB F).length c7)) w7) := Lib.hid (by rw [HEF.out]; exact ⟨A7, c7, rfl, ho7.mono HE6.out.size, HE6.out.trans (hb7.mono HE6.out.size)⟩)
  clear ho7 hb7 HSL
  go_wp2_with fail
  go_ret
  exact HRES.out
set_option maxRecDepth 100000 in
set_option maxHeartbeats 4000000 in
theorem headSec_calls (w : World) (hG : Gl w) (g n : Nat) (hg : g < 4294967296) (hn : n < 256) : Calls Tryz.prog 67 #[.int .u32 (g : Int), .int .i64 (n : Int)] w (RetPut w (headSec g n)) := by
  obtain ⟨P1, hP1⟩ : ∃ P, P = lbs n 1 := ⟨_, rfl⟩
  have HP : Hid (P1.length = 1) := Lib.hid (by rw [hP1]; exact lbs_length _ _)
  have HC1 : Hid (∀ w, Calls Tryz.prog 91 #[.int .u64 (n : Int), .int .i64 1] w (RetPut w P1)) := Lib.hid fun w => by rw [hP1]; exact put_ret w n 1 (by decide) (by decide)
  have w1' : IntKind.u64.wrap (n : Int) = (n : Int) := by rw [IntKind.wrap_u64]; omega
  have w2' : (n : Int) % 18446744073709551616 = (n : Int) := by omega
  obtain ⟨E, hE⟩ : ∃ E, E = headSec g n := ⟨_, rfl⟩
  have HSE : Hid (∀ w1 A c, Below w.heap.size w w1 → RB w1 w1.heap.size A P1 → Calls Tryz.prog 90 #[.int .u8 66, .int .u32 (g : Int), .slice A P1.length c] w1 (RetPut w1 E)) := Lib.hid fun w1 A c hb hr => by
    rw [hE]
    unfold headSec
    rw [← hP1]
    exact sector_calls w1 (hG.below' hb) 66 g hg A P1.length c P1 rfl hr (by rw [HP.out]; decide)
  rw [← hE]
  clear hP1 hE hG hg hn
  go_enter Tryz.func67, Tryz.ntmps67
  go_wp2_with fail
  go_at_call 91
  with_reducible refine (HC1.out w).mono ?_
  rintro e w2 ⟨A2, c2, rfl, ho2, hb2⟩
  have HB2 := Lib.hid hb2
  have HS2 := Lib.hid (HSE.out w2 A2 c2 hb2 ho2.rb)
  clear ho2 hb2 HC1 HSE
  go_wp2_with fail
  go_at_call 90
  with_reducible refine HS2.out.mono ?_
  rintro e w3 ⟨A3, c3, rfl, ho3, hb3⟩
  have HRES : Hid (RetPut w E (.returned (.slice A3 E.length c3)) w3) := Lib.hid ⟨A3, c3, rfl, ho3.mono HB2.out.size, HB2.out.trans (hb3.mono HB2.out.size)⟩
  clear ho3 hb3 HS2
  go_wp2_with fail
  go_ret
  exact HRES.out
set_option maxRecDepth 100000 in
set_option maxHeartbeats 4000000 in
theorem firstSec_calls (w : World) (hG : Gl w) (g : Nat) (m : Man) (hg : g < 4294967296) (h32 : m.sum.length = 32) (hok : m.okB = true) (hv : m.ver < 4294967296) : Calls Tryz.prog 82 #[.int .u32 (g : Int), .agg (mcells m).toArray] w (RetPut w (firstSec g m)) := by
  obtain ⟨P1, hP1⟩ : ∃ P, P = encM m := ⟨_, rfl⟩
  have HP : Hid (P1.length = 40) := Lib.hid (by rw [hP1]; exact (dec_enc hok hv h32).1)
  obtain ⟨ms, hms⟩ : ∃ ms, ms = mcells m := ⟨_, rfl⟩
  have HM35 : Hid (ms.length = 35) := Lib.hid (by rw [hms, mcells_len m h32])
  have HC1 : Hid (∀ w, Calls Tryz.prog 103 #[.agg ms.toArray] w (RetPut w P1)) := Lib.hid fun w => by rw [hP1, hms]; exact iencode_calls w m h32 hok hv
  obtain ⟨E, hE⟩ : ∃ E, E = firstSec g m := ⟨_, rfl⟩
  have HSE : Hid (∀ w1 A c, Below w.heap.size w w1 → RB w1 w1.heap.size A P1 → Calls Tryz.prog 90 #[.int .u8 73, .int .u32 (g : Int), .slice A P1.length c] w1 (RetPut w1 E)) := Lib.hid fun w1 A c hb hr => by
    rw [hE]
    unfold firstSec
    rw [← hP1]
    exact sector_calls w1 (hG.below' hb) 73 g hg A P1.length c P1 rfl hr (by rw [HP.out]; decide)
  rw [← hE, ← hms]
  clear hP1 hE hG hg hms h32 hok hv
  go_enter Tryz.func82, Tryz.ntmps82
  go_wp2_with (((with_reducible show wpList _ _ _ (Oper.mk _ (Op.box 47 _) _ _ _ _ :: _) _ _); refine wpList_boxS rfl _ rfl ms (by rfl) ?_))
  intro w1 hb1 hg1 hs1
  have HB1 := Lib.hid hb1
  have HE1 : Hid (Below w.heap.size w w1) := Lib.hid (gbelow hg1)
  clear hb1 hg1 hs1
  go_wp2_with (((with_reducible show wpList _ _ _ (Oper.mk _ (Op.load 47 _) _ _ _ _ :: _) _ _); refine wpList_loadS sMan rfl _ rfl w.heap.size ms rfl HB1.out HM35.out ?_))
  go_at_call 103
  with_reducible refine (HC1.out w1).mono ?_
  rintro e w2 ⟨A2, c2, rfl, ho2, hb2⟩
  have HB2 : Hid (Below w.heap.size w w2) := Lib.hid (HE1.out.trans (hb2.mono HE1.out.size))
  have HS2 := Lib.hid (HSE.out w2 A2 c2 HB2.out ho2.rb)
  clear ho2 hb2 HC1 HSE HB1
  go_wp2_with fail
  go_at_call 90
  with_reducible refine HS2.out.mono ?_
  rintro e w3 ⟨A3, c3, rfl, ho3, hb3⟩
  have HRES : Hid (RetPut w E (.returned (.slice A3 E.length c3)) w3) := Lib.hid ⟨A3, c3, rfl, ho3.mono HB2.out.size, HB2.out.trans (hb3.mono HB2.out.size)⟩
  clear ho3 hb3 HS2
  go_wp2_with fail
  go_ret
  exact HRES.out
set_option maxRecDepth 100000 in
set_option maxHeartbeats 4000000 in
theorem dataSec_calls (w : World) (hG : Gl w) (g k : Nat) (hg : g < 4294967296) (hk : k < 256) (A : Option Addr) (n c : Nat) (l : List UInt8) (hn : n = l.length) (hA : RB w w.heap.size A l) (hl : n ≤ 54) :
    Calls Tryz.prog 83 #[.int .u32 (g : Int), .int .i64 (k : Int), .slice A n c] w (RetPut w (dataSec g k l)) := by
  obtain ⟨P1, hP1⟩ : ∃ P, P = lbs k 1 := ⟨_, rfl⟩
  have HP : Hid (P1.length = 1) := Lib.hid (by rw [hP1]; exact lbs_length _ _)
  have HC1 : Hid (∀ w, Calls Tryz.prog 91 #[.int .u64 (k : Int), .int .i64 1] w (RetPut w P1)) := Lib.hid fun w => by rw [hP1]; exact put_ret w k 1 (by decide) (by decide)
  have w1' : IntKind.u64.wrap (k : Int) = (k : Int) := by rw [IntKind.wrap_u64]; omega
  have w2' : (k : Int) % 18446744073709551616 = (k : Int) := by omega
  obtain ⟨E, hE⟩ : ∃ E, E = dataSec g k l := ⟨_, rfl⟩
  have HSE : Hid (∀ w1 A c L, L = P1 ++ l → Below w.heap.size w w1 → RB w1 w1.heap.size A L → Calls Tryz.prog 90 #[.int .u8 68, .int .u32 (g : Int), .slice A L.length c] w1 (RetPut w1 E)) := Lib.hid fun w1 A c L hL hb hr => by
    rw [hE]
    unfold dataSec
    rw [← hP1, ← hL]
    exact sector_calls w1 (hG.below' hb) 68 g hg A L.length c L rfl hr (by rw [hL, List.length_append, HP.out]; omega)
  have HA := Lib.hid hA
  have HN := Lib.hid (And.intro hn hl)
  rw [← hE]
  clear hP1 hE hG hg hk hn hA hl
  go_enter Tryz.func83, Tryz.ntmps83
  go_wp2_with fail
  go_at_call 91
  with_reducible refine (HC1.out w).mono ?_
  rintro e w2 ⟨A2, c2, rfl, ho2, hb2⟩
  have H2 : Hid (BS w A2 c2 P1 w2) := Lib.hid ⟨ho2, hb2⟩
  have HR2 : Hid (RB w2 w2.heap.size A l) := Lib.hid ((HA.out.below hb2).mono hb2.size)
  clear ho2 hb2 HC1
  go_wp2_with (((with_reducible show wpList _ _ _ (Oper.mk _ (Op.call (Call.mk (Callee.builtin Builtin.append) _ _)) _ _ _ _ :: _) _ _); refine wpList_app_bytes _ rfl _ _ rfl w.heap.size A2 c2 P1 P1.length (by rfl) rfl H2.out.ob A c l n (by rfl) HN.out.1 HR2.out (by rw [HP.out, ← HN.out.1]; have := HN.out.2; omega) H2.out.bel.size ?_))
  intro A4 c4 l4 w4 hl4 ho4 hg4 hx4
  have H4 : Hid (BS w A4 c4 l4 w4) := Lib.hid (H2.out.app ho4 hg4)
  have HS4 := Lib.hid (HSE.out w4 A4 c4 l4 hl4.out H4.out.bel ho4.rb)
  clear hl4 ho4 hg4 hx4 H2 HR2 HSE
  go_wp2_with fail
  go_at_call 90
  with_reducible refine HS4.out.mono ?_
  rintro e w5 ⟨A5, c5, rfl, ho5, hb5⟩
  have HRES : Hid (RetPut w E (.returned (.slice A5 E.length c5)) w5) := Lib.hid ⟨A5, c5, rfl, ho5.mono H4.out.bel.size, H4.out.bel.trans (hb5.mono H4.out.bel.size)⟩
  clear ho5 hb5 HS4
  go_wp2_with fail
  go_ret
  exact HRES.out
theorem bankAt_calls (w : World) (n : Nat) (hn : n < 2) : Calls Tryz.prog 53 #[.int .i64 (n : Int)] w (fun e w' => e = .returned (.int .i64 ((bankAtF n : Nat) : Int)) ∧ w' = w) := by
  rcases (by omega : n = 0 ∨ n = 1) with rfl | rfl
  · rw [show ((0 : Nat) : Int) = 0 from rfl]
    go_enter Tryz.func53, Tryz.ntmps53
    go_wp2
    go_ret
    exact ⟨rfl, rfl⟩
  · rw [show ((1 : Nat) : Int) = 1 from rfl]
    go_enter Tryz.func53, Tryz.ntmps53
    go_wp2
    go_ret
    exact ⟨rfl, rfl⟩
/- loader: pieces. -/
theorem build1_bb (w : World) (A0 : Option Addr) (n0 c0 : Nat) : (Instr.buildSlice 140 1 #[(0, .slice A0 n0 c0)]).run Tryz.prog w = .ok (.slice (some ⟨w.heap.size, 0, none⟩) 1 1) (w.alloc (.cells #[.slice A0 n0 c0] 36)) := by
  obtain ⟨ti, hi, hz, hs1, hb1⟩ := info_parts infoBs
  refine run_buildSlice w _ _ 1 _ _ ti _ Tryz.underlying140 hi hz (by rw [hs1]; decide) (by rw [hs1]; decide) ?_
  rw [hs1]; kernel_rfl
section
variable {w : World} {ops : Array Oper} {rest : List Oper} {o : Oper} {a : Act} {Q : Exit → Act → World → Prop}
theorem wpList_bs1b (hg : o.guard = none) (x : Operand) (hop : o.op = .buildSlice 140 1 #[(0, x)]) (A : Option Addr) (n c : Nat) (hx : a.eval x = .slice A n c)
    (hK : ∀ w', Row w' 36 1 (some ⟨w.heap.size, 0, none⟩) 1 1 [.slice A n c] → w.grownBy w' none → w'.heap.size = w.heap.size + 1 → wpList Tryz.prog ops Q rest (a.put o.dst (.slice (some ⟨w.heap.size, 0, none⟩) 1 1)) w') : wpList Tryz.prog ops Q (o :: rest) a w :=
  wpList_plain hg fun _ hk => by
    unfold Oper.wp execOp
    have e : (#[(0, x)] : Array (Nat × Operand)).map (fun p => (p.1, a.eval p.2)) = #[(0, .slice A n c)] := by simp [hx]
    simp only [hop, e, Sem.run_bind, build1_bb w A n c, Result.andThen_ok]
    exact hk _ _ (hK _ ⟨rfl, .inr ⟨w.heap.size, 1, #[.slice A n c], rfl, Nat.zero_le _, heap_alloc_new w _, Nat.le_refl _, by decide, rfl, rfl⟩⟩ (World.grownBy_alloc w _ none) (by simp))
theorem wpList_app1b (hg : o.guard = none) (s x : Operand) (hop : o.op = .call { callee := .builtin .append, args := #[s, x], argTypes := #[140, 140] })
    (A : Option Addr) (c n : Nat) (xs : List Value) (hs : a.eval s = .slice A n c) (hown : Row w 36 1 A c n xs) (A1 : Option Addr) (n1 c1 : Nat) (g : Option Addr) (hx : a.eval x = .slice g 1 1) (hr : Row w 36 1 g 1 1 [.slice A1 n1 c1]) (hn : n ≤ 1000)
    (hK : ∀ A' c' w', Row w' 36 1 A' c' (n + 1) (xs ++ [.slice A1 n1 c1]) → w.grownBy w' (A.map (·.block)) → (A'.map (·.block) = A.map (·.block) ∨ A'.map (·.block) = some w.heap.size) → wpList Tryz.prog ops Q rest (a.put o.dst (.slice A' (n + 1) c')) w') : wpList Tryz.prog ops Q (o :: rest) a w := by
  obtain ⟨g0, hA, _, hc, _⟩ := hr.at (j := 0) (by show 0 < 1; decide)
  subst hA
  exact wpList_app w hg s x 140 hop 0 36 (.slice none 0 0) 1 24 Tryz.underlying140 infoBs rfl (by decide) A n c xs hs hown (some ⟨g0, 0, none⟩) 1 1 [.slice A1 n1 c1] hx rfl (fun _ => ⟨_, rfl, fun j u hj => by
    obtain ⟨h1, h2⟩ := List.getElem?_eq_some_iff.1 hj
    have : j = 0 := by simpa using h1
    subst this
    rw [Addr.add_mid, Nat.zero_add, hc, ← h2]⟩) (fun u hu => by rw [List.mem_singleton] at hu; rw [hu]; rfl) (by omega) (by unfold maxLen; omega) (Nat.zero_le _) hK
end
def LPs (w : World) (vs : List Value) (L : List (List UInt8)) : Prop := vs.length = L.length ∧ ∀ (i : Nat) (l : List UInt8), L[i]? = some l → ∃ A c, vs[i]? = some (Value.slice A l.length c) ∧ l.length ≤ c ∧ RB w w.heap.size A l
theorem LPs.below {w w' : World} {vs : List Value} {L : List (List UInt8)} (h : LPs w vs L) (hb : Below w.heap.size w w') : LPs w' vs L := ⟨h.1, fun i l hl => by
  obtain ⟨A, c, h1, h2, h3⟩ := h.2 i l hl
  exact ⟨A, c, h1, h2, (h3.below hb).mono hb.size⟩⟩
theorem LPs.snoc {w : World} {vs : List Value} {L : List (List UInt8)} (h : LPs w vs L) {A : Option Addr} {c : Nat} {l : List UInt8} (hc : l.length ≤ c) (hA : RB w w.heap.size A l) : LPs w (vs ++ [Value.slice A l.length c]) (L ++ [l]) := by
  refine ⟨by simp [h.1], fun i l' hl => ?_⟩
  by_cases hi : i < L.length
  · rw [List.getElem?_append_left hi] at hl
    obtain ⟨A', c', h1, h2⟩ := h.2 i l' hl
    exact ⟨A', c', by rw [List.getElem?_append_left (by rw [h.1]; exact hi)]; exact h1, h2⟩
  · have hlt := (List.getElem?_eq_some_iff.1 hl).1
    have : i = L.length := by simp at hlt; omega
    subst this
    rw [List.getElem?_append_right (Nat.le_refl _), Nat.sub_self] at hl
    have hl : l = l' := by simpa using hl
    subst hl
    exact ⟨A, c, by rw [← h.1, List.getElem?_append_right (Nat.le_refl _), Nat.sub_self]; rfl, hc, hA⟩
def nOf : Value → Nat
  | .slice _ n _ => n
  | _ => 0
def PcR (w00 w0 : World) (b : List UInt8) (s0 s3 : Value) (w : World) : Prop :=
  ∃ (A : Option Addr) (c : Nat) (r : List UInt8) (Ar : Option Addr) (cr : Nat) (vs : List Value) (D : List (List UInt8)), s0 = .slice A r.length c ∧ r.length ≤ c ∧ RB w00 w00.heap.size A r ∧ s3 = .slice Ar D.length cr ∧ Row w 36 1 Ar cr D.length vs ∧ LPs w00 vs D ∧
    (∀ g, Ar.map (·.block) = some g → w0.heap.size ≤ g) ∧ Below w0.heap.size w0 w ∧ piecesF b = D ++ cutsF r.length r ∧ D.length + r.length ≤ 1000
def RetPc (w00 w : World) (L : List (List UInt8)) (e : Ending) (w' : World) : Prop := ∃ A c vs, e = .returned (.slice A L.length c) ∧ Row w' 36 1 A c L.length vs ∧ LPs w00 vs L ∧ (∀ g, A.map (·.block) = some g → w.heap.size ≤ g) ∧ Below w.heap.size w w'
theorem cuts_step {r : List UInt8} (h : 0 < r.length) : cutsF r.length r = r.take 54 :: cutsF (r.drop 54).length (r.drop 54) := by
  obtain ⟨n, hn⟩ : ∃ n, r.length = n + 1 := ⟨r.length - 1, by omega⟩
  have hr : r ≠ [] := List.length_pos_iff.1 h
  rw [hn]
  show (if r = [] then _ else _) = _
  rw [if_neg hr, cuts_fuel n (r.drop 54).length (r.drop 54) (by rw [List.length_drop]; omega) (Nat.le_refl _)]
set_option maxRecDepth 100000 in
set_option maxHeartbeats 8000000 in
theorem pieces_calls (w00 w : World) (A : Option Addr) (n c : Nat) (b : List UInt8) (hn : n = b.length) (hA : RB w00 w00.heap.size A b) (hc : n ≤ c) (hl : n ≤ 900) : Calls Tryz.prog 87 #[.slice A n c] w (RetPc w00 w (piecesF b)) := by
  subst hn
  have HA := Lib.hid hA
  have HC := Lib.hid (And.intro hc hl)
  obtain ⟨n, hn⟩ : ∃ n, n = b.length := ⟨_, rfl⟩
  have HN := Lib.hid hn
  rw [← hn]
  clear hA hc hl hn
  go_enter Tryz.func87, Tryz.ntmps87
  go_wp2_with fail
  go_loopw [0, 3] (fun s0 s3 wr => PcR w00 w b s0 s3 wr) (fun s0 _ _ => nOf s0)
  case atStart => exact ⟨A, c, b, none, 0, [], [], by rw [HN.out], HC.out.1, HA.out, rfl, Row.nil _ _ _, ⟨rfl, fun i l h => by simp at h⟩, fun g hg => (by cases hg), Below.refl _ _, rfl, by have := HC.out.2; simp; omega⟩
  case round =>
    obtain ⟨A2, c2, r, Ar, cr, vs, D, rfl, hc2, hr, rfl, hrow, hlp, hnew, hbel, hcut, hbound⟩ := hrel
    obtain ⟨m, hm⟩ : ∃ m, m = r.length := ⟨_, rfl⟩
    obtain ⟨k, hk⟩ : ∃ k, k = D.length := ⟨_, rfl⟩
    have HM := Lib.hid hm
    have HK := Lib.hid hk
    have HRR := Lib.hid hr
    have HROW := Lib.hid hrow
    have HLP := Lib.hid hlp
    have HNW := Lib.hid hnew
    have HB := Lib.hid hbel
    have HCT := Lib.hid hcut
    have HBD := Lib.hid hbound
    rw [← hm] at hc2
    have HC2 := Lib.hid hc2
    rw [← hm, ← hk]
    clear hr hrow hlp hnew hbel hcut hbound hm hk hc2
    by_cases h0 : 0 < m
    · have h0' : (0 : Int) < (m : Int) := by omega
      obtain ⟨q, hq⟩ : ∃ q, q = min 54 m := ⟨_, rfl⟩
      have hqm : min (54 : Int) (m : Int) = (q : Int) := by omega
      have HQ : Hid (q = min 54 m ∧ q ≤ m ∧ q ≤ 54) := Lib.hid ⟨hq, by omega, by omega⟩
      have hqc : q ≤ c2 := by have := HC2.out; omega
      have hmx : (if (54 : Int) ≤ (m : Int) then (54 : Int) else (m : Int)) = (q : Int) := by split <;> omega
      have HT : Hid (r.take q = r.take 54 ∧ r.drop q = r.drop 54) := Lib.hid (by
        have h1 := HM.out
        by_cases h : m ≤ 54
        · have e : q = m := by omega
          rw [e, h1, List.take_length, List.drop_length, List.take_of_length_le (by omega), List.drop_of_length_le (by omega)]
          exact ⟨rfl, rfl⟩
        · rw [show q = 54 by omega]
          exact ⟨rfl, rfl⟩)
      have HPOS := Lib.hid h0
      clear hq
      go_wp2_with (((with_reducible show wpList _ _ _ (Oper.mk _ (Op.buildSlice 140 _ _) _ _ _ _ :: _) _ _); refine wpList_bs1b rfl _ rfl A2 q c2 (by rfl) ?_))
      intro w1 hr1 hg1 hs1
      obtain ⟨A15, hA15⟩ : ∃ A : Option Addr, A = some ⟨wr.heap.size, 0, none⟩ := ⟨_, rfl⟩
      rw [← hA15] at hr1 ⊢
      have HR1 := Lib.hid hr1
      have HROW1 : Hid (Row w1 36 1 Ar cr k vs) := Lib.hid (by rw [HK.out]; exact HROW.out.below (gbelow hg1))
      have HB1 : Hid (Below w.heap.size w w1) := Lib.hid (HB.out.trans ((gbelow hg1).mono HB.out.size))
      clear hr1 hg1 hs1 hA15 HROW
      go_wp2_with (((with_reducible show wpList _ _ _ (Oper.mk _ (Op.call (Call.mk (Callee.builtin Builtin.append) _ _)) _ _ _ _ :: _) _ _); refine wpList_app1b rfl _ _ rfl Ar cr k vs rfl HROW1.out A2 q c2 A15 (by rfl) HR1.out (by have := HBD.out; have := HK.out; omega) ?_))
      intro A16 c16 w2 hr2 hg2 hx2
      have HR2 := Lib.hid hr2
      have HN2 : Hid (∀ g, A16.map (·.block) = some g → w.heap.size ≤ g) := Lib.hid fun g hg => by
        rcases hx2 with e | e
        · exact HNW.out g (e.symm.trans hg)
        · have h1 := HB1.out.size
          first | (rw [e] at hg; injection hg with hg; omega) | (obtain ⟨a, rfl, e⟩ := e; have : a.block = g := (by simpa using hg); omega)
      have HB2 : Hid (Below w.heap.size w w2) := Lib.hid (HB1.out.grown hg2 HB1.out.size (fun j e => HNW.out j e))
      clear hr2 hg2 hx2 HR1 HROW1 HB1
      go_wp2_with (((with_reducible show wpList _ _ _ (Oper.mk (some 19) (Op.slice 36 _ _ _ _) _ _ _ _ :: _) _ _); refine wpList_sliceLo (n := 1) Tryz.underlying36 (by kernel_rfl) rfl _ _ rfl A2 m c2 q (by rfl) (by rfl) HQ.out.2.1 ?_))
      intro A3 hA3
      have hlen : (r.drop 54).length = m - q := by rw [List.length_drop, HQ.out.1]; have := HM.out; omega
      have htl : (r.take 54).length = q := by rw [List.length_take, HQ.out.1]; have := HM.out; omega
      have hrel : PcR w00 w b (.slice A3 (m - q) (c2 - q)) (.slice A16 (k + 1) c16) w2 := by
        have hcut := HRR.out.cut q m c2 HQ.out.2.1 (by rw [HM.out]; exact Nat.le_refl _) (by rw [← HM.out]; exact HC2.out)
        rw [HM.out, List.take_length, HT.out.2] at hcut
        have htk : RB w00 w00.heap.size A2 (r.take 54) := HRR.out.take 54
        refine ⟨A3, c2 - q, r.drop 54, A16, c16, vs ++ [.slice A2 q c2], D ++ [r.take 54], by rw [hlen], by rw [hlen]; have := HC2.out; omega, by rw [hA3.out]; exact hcut, by rw [List.length_append, ← HK.out]; rfl, by rw [List.length_append, ← HK.out]; exact HR2.out, ?_, HN2.out, HB2.out, ?_, ?_⟩
        · have := HLP.out.snoc (A := A2) (c := c2) (l := r.take 54) (by rw [htl]; have := HC2.out; have := HQ.out.2.1; omega) htk
          rw [htl] at this
          exact this
        · rw [HCT.out, cuts_step (by rw [← HM.out]; exact HPOS.out), List.append_assoc]; rfl
        · rw [hlen, List.length_append, ← HK.out]
          have := HBD.out
          have h1 := HM.out
          have h2 := HK.out
          have h3 := HPOS.out
          have h4 := HQ.out.1
          show k + 1 + (m - q) ≤ 1000
          omega
      have HREL := Lib.hid hrel
      have HDEC : Hid (m - q < m) := Lib.hid (by have := HQ.out.1; have := HPOS.out; omega)
      clear hA3 hlen htl hrel
      go_wp2_with fail
      go_roundw
      case rel => exact HREL.out
      case measure => exact HDEC.out
    · have h0' : ¬ (0 : Int) < (m : Int) := by omega
      have HRES : Hid (RetPc w00 w (piecesF b) (.returned (.slice Ar k cr)) wr) := Lib.hid (by
        have hr0 : r = [] := List.eq_nil_of_length_eq_zero (by have := HM.out; omega)
        have e : piecesF b = D := by rw [HCT.out, hr0]; exact List.append_nil _
        rw [e]
        exact ⟨Ar, cr, vs, by rw [HK.out], HROW.out, HLP.out, HNW.out, HB.out⟩)
      clear h0
      go_wp2_with fail
      go_ret
      exact HRES.out
end Go.Proofs.YtjfpoahmjgeogaaGreatDoor
