/- The law PortsOrder, walked. -/
import Derived.Test.YtdjphdkoljfndaaPortAwake
import Derived.Test.YtdjphdkoljfndaaOpenA
import Derived.Test.YtdjphdkoljfndaaStrs
import Derived.Deep.QuietTactic
import Derived.BigQuiet
namespace Go.Proofs.Ytdjphdkoljfndaa
open Go.RowKit Nac
theorem send_cases (C : Ch) (hk : C.kind = 1 ∨ C.kind = 2) (l : List UInt8) (now : Nat) :
    (∃ e : Int, C.send l now = (C, e) ∧ (e = 1 ∨ e = 5)) ∨ (∃ n, C.q.length = C.most ∧ C.send l now = ({ C with lost := n }, 0)) ∨ (l.length ≤ C.size ∧ C.q.length ≠ C.most ∧ C.send l now = ({ C with q := C.q ++ [⟨l, now⟩] }, 0)) := by
  unfold Ch.send
  by_cases h1 : C.size < l.length
  · exact .inl ⟨1, by rw [if_pos h1], .inl rfl⟩
  rw [if_neg h1]
  by_cases h2 : C.q.length = C.most
  · rw [if_pos h2]
    rcases hk with hk | hk
    · exact .inl ⟨5, by rw [if_pos hk], .inr rfl⟩
    · exact .inr (.inl ⟨_, h2, by rw [if_neg (by omega), if_pos hk]⟩)
  · exact .inr (.inr ⟨by omega, h2, by rw [if_neg h2]⟩)
theorem waiting_same (w : World) (n b : Nat) (v : Value) (hc : w.cell? ⟨b, 4, none⟩ = some v) :
    Calls Try.prog 12 #[.pointer (some ⟨b, 0, none⟩)] (w.drewN n) fun e w' => e = .returned v ∧ w' = w.drewN n :=
  (waiting_calls (w.drewN n) b v hc).mono fun _ _ ⟨a, b⟩ => ⟨a, b.symm⟩
/-- what the law remembers: the channel, what was taken in, what came out -/
structure OrdRel (w wr : World) (kd M Z : Int) (C : Ch) (f : Nat) (A7 : Option Addr) (c7 : Nat) (ins : List (List UInt8)) (A8 : Option Addr) (c8 : Nat) (outs : List (List UInt8)) (k : Nat) : Prop where
  ok : C.ok
  kind : C.kind = 1 ∨ C.kind = 2
  most : (C.most : Int) = M
  f16 : f < 16
  blk : Blk wr (w.heap.size + 1) (ccells C f)
  box : Blk wr w.heap.size [.int .i64 kd, .int .i64 M, .int .i64 Z]
  bel : Below w.heap.size w wr
  os7 : OS wr (w.heap.size + 2) A7 c7 ins
  os8 : OS wr (w.heap.size + 2) A8 c8 outs
  ne : A8 = none ∨ A8.map (·.block) ≠ A7.map (·.block)
  eq : ins = outs ++ C.q.map Msg.b
  le : ins.length ≤ k
theorem OrdRel.drewN {w wr : World} {kd M Z : Int} {C : Ch} {f : Nat} {A7 : Option Addr} {c7 : Nat} {ins : List (List UInt8)} {A8 : Option Addr} {c8 : Nat} {outs : List (List UInt8)} {k : Nat} (h : OrdRel w wr kd M Z C f A7 c7 ins A8 c8 outs k) (n : Nat) : OrdRel w (wr.drewN n) kd M Z C f A7 c7 ins A8 c8 outs k :=
  ⟨h.ok, h.kind, h.most, h.f16, h.blk, h.box, ⟨h.bel.os, h.bel.tape, h.bel.output, h.bel.size, h.bel.block⟩, h.os7, h.os8, h.ne, h.eq, h.le⟩
set_option maxHeartbeats 8000000 in
set_option maxRecDepth 100000 in
theorem order_calls (w : World) (kd m z : Int) (hm : I64 m) (A : Option Addr) (c : Nat) (xs : List ActP) (hA : RA w w.heap.size A xs) (h8 : xs.length ≤ 140737488351232) :
    Calls Try.prog 4 #[.agg #[.int .i64 kd, .int .i64 m, .int .i64 z], .slice A xs.length c] w fun e w' => e = .returned (.bool true) ∧ Below w.heap.size w w' := by
  go_enter Try.func4, Try.ntmps4
  go_wp2_with fail
  have hbel0 : Below w.heap.size w (w.alloc (.cells #[.int .i64 kd, .int .i64 m, .int .i64 z] 39)) := (Below.refl _ _).alloc (Nat.le_refl _) _
  have hbox0 : Blk (w.alloc (.cells #[.int .i64 kd, .int .i64 m, .int .i64 z] 39)) w.heap.size [.int .i64 kd, .int .i64 m, .int .i64 z] := Blk.new w _ _
  by_cases hz : NewOk kd m z
  · refine (new_ok _ kd m z hz).mono ?_
    rintro e w1 ⟨rfl, hb1, hg1⟩
    have hsz1 : (w.alloc (.cells #[.int .i64 kd, .int .i64 m, .int .i64 z] 39)).heap.size = w.heap.size + 1 := by simp
    rw [hsz1] at hb1
    clear hsz1
    have hbox1 : Blk w1 w.heap.size [.int .i64 kd, .int .i64 m, .int .i64 z] := hbox0.grown hg1 (by simp)
    have hbel1 : Below w.heap.size w w1 := hbel0.grown hg1 hbel0.size (fun k e => by cases e)
    have hkd : kd = 0 ∨ kd = 1 ∨ kd = 2 := by unfold NewOk at hz; omega
    clear hg1 hbel0 hbox0
    by_cases hs : kd = 0
    · subst hs
      have c0 : w1.cell? ⟨w.heap.size + 1, 0, none⟩ = some (.int .i64 0) := hb1.cell rfl
      have HB := Lib.hid hb1; clear hb1 hbox1 hz hkd
      go_wp2_with (go_at_call 11; refine (kind_calls _ _ _ c0).mono ?_; rintro e w' ⟨rfl, rfl⟩)
      refine (awake_calls _).mono ?_
      rintro e w3 ⟨rfl, hb3⟩
      go_wp2
      go_ret
      exact ⟨rfl, hbel1.trans (hb3.mono hbel1.size)⟩
    · have hkd' : kd = 1 ∨ kd = 2 := by omega
      obtain ⟨C0, hC0⟩ : ∃ C0 : Ch, Hid (C0 = ⟨kd.toNat, m.toNat, z.toNat, 0, []⟩) := ⟨_, rfl⟩
      rw [← hC0.out] at hb1
      have hk0 : (C0.kind : Int) = kd := by rw [hC0.out]; show ((kd.toNat : Nat) : Int) = kd; omega
      have hok0 : C0.ok := by
        rw [hC0.out]
        unfold NewOk at hz
        exact ⟨by show kd.toNat ≤ 2; omega, by show 1 ≤ m.toNat; omega, by show m.toNat ≤ 16; omega, fun h => absurd (show kd.toNat = 0 from h) (by omega), by show z.toNat ≤ 64; omega, Nat.zero_le _, Nat.zero_le _, fun x hx => by cases hx⟩
      have hR0 : OrdRel w w1 kd m z C0 0 none 0 [] none 0 [] 0 := by
        refine ⟨hok0, by omega, by rw [hC0.out]; unfold NewOk at hz; show ((m.toNat : Nat) : Int) = m; omega, by omega, hb1, hbox1, hbel1, OS.nil _ _, OS.nil _ _, .inl rfl, by rw [hC0.out]; rfl, Nat.le_refl _⟩
      have c0 : w1.cell? ⟨w.heap.size + 1, 0, none⟩ = some (.int .i64 C0.kind) := hb1.cell rfl
      rw [hk0] at c0
      have HR := Lib.hid hR0
      clear hR0 hb1 hbox1 hbel1 hok0 hk0 hkd hz hC0
      have hs2 : (kd == 0) = false := by simpa using hs
      go_wp2_with (go_at_call 11; refine (kind_calls _ _ _ c0).mono ?_; rintro e w' ⟨rfl, rfl⟩)
      clear c0
      go_loopw [7, 8, 9] (fun s7 s8 i wr => ∃ (k : Nat) (C : Ch) (f : Nat) (A7 : Option Addr) (c7 : Nat) (ins : List (List UInt8)) (A8 : Option Addr) (c8 : Nat) (outs : List (List UInt8)), k ≤ xs.length ∧ k ≤ 80 ∧ i = .int .i64 k ∧ s7 = .slice A7 ins.length c7 ∧ s8 = .slice A8 outs.length c8 ∧ OrdRel w wr kd m z C f A7 c7 ins A8 c8 outs k) (fun _ _ i _ => 80 - (intOf i).toNat)
      case atStart => exact ⟨0, C0, 0, none, 0, [], none, 0, [], by omega, by omega, rfl, rfl, rfl, HR.out⟩
      case round =>
        obtain ⟨k, C, f, A7, c7, ins, A8, c8, outs, hk, hk80, rfl, rfl, rfl, R⟩ := hrel
        have hlo := R.le
        have hlo2 : outs.length ≤ ins.length := by rw [R.eq]; simp
        by_cases hgo : k < xs.length ∧ k < 80
        · obtain ⟨hkl, hk8⟩ := hgo
          obtain ⟨b2, o2, rfl, hb2, c0, c1, c2, hfit⟩ := (hA.below R.bel).get hkl
          obtain ⟨x, hx⟩ : ∃ x, x = xs[k] := ⟨_, rfl⟩
          rw [← hx] at c0 c1 c2 hfit
          clear hx
          have hblt := R.blk.lt
          have HR := Lib.hid R; clear R
          by_cases hrv : x.recv = true
          · rw [hrv] at c0
            go_wp2_with fail
            have hw1 : wr.grownBy (wr.alloc (.cells #[Value.bool true, .slice x.A x.l.length x.c, .int .u64 x.now] 33)) none := World.grownBy_alloc wr _ none
            have hbl1 := HR.out.bel.grown hw1 HR.out.bel.size (fun k e => by cases e)
            have hsz1 : (wr.alloc (.cells #[Value.bool true, .slice x.A x.l.length x.c, .int .u64 x.now] 33)).heap.size = wr.heap.size + 1 := by simp
            refine (recv_calls _ (w.heap.size + 1) C f x.now HR.out.ok HR.out.f16 (HR.out.blk.alloc _) hfit.now).mono ?_
            rintro e w4 ⟨Ax, cx, rfl, hox, ⟨f', hf', hb4⟩, hg4⟩
            have hbl4 := hbl1.grown hg4 hbl1.size (fun k e => by injection e with e; omega)
            have h74 : OS w4 (w.heap.size + 2) A7 c7 ins := (HR.out.os7.alloc _).kept hg4 (by
              cases h : A7.map (·.block) with
              | none => exact .inr (by simp)
              | some g => exact .inr (by have := HR.out.os7.lt g h; intro e; injection e with e; omega))
            have h84 : OS w4 (w.heap.size + 2) A8 c8 outs := (HR.out.os8.alloc _).kept hg4 (by
              cases h : A8.map (·.block) with
              | none => exact .inr (by simp)
              | some g => exact .inr (by have := HR.out.os8.lt g h; intro e; injection e with e; omega))
            have hbox4 : Blk w4 w.heap.size [.int .i64 kd, .int .i64 m, .int .i64 z] := (HR.out.box.alloc _).grown hg4 (by simp)
            have hsz4 := hg4.size
            rw [hsz1] at hsz4
            clear hg4 hbl1 c0 c1 c2 hw1 hsz1
            cases hq : C.q with
            | nil =>
              have hse : C.recv x.now = (C, [], 0, 6) := by unfold Ch.recv; rw [hq]
              rw [hse] at hox hb4 ⊢
              simp only at hox hb4 ⊢
              have HR4 : Hid (OrdRel w w4 kd m z C f' A7 c7 ins A8 c8 outs (k + 1)) := ⟨HR.out.ok, HR.out.kind, HR.out.most, hf', hb4, hbox4, hbl4, h74, h84, HR.out.ne, HR.out.eq, by omega⟩
              clear hse hb4 hox hbl4 h74 h84 hbox4 HR hq
              go_wp2
              go_roundw
              case rel => exact ⟨k + 1, C, f', A7, c7, ins, A8, c8, outs, by omega, by omega, by go_num, rfl, rfl, HR4.out⟩
              case measure => simp [intOf]; omega
            | cons q0 qr =>
              have hse : C.recv x.now = ({ C with q := qr }, q0.b, x.now - q0.at_, 0) := by
                unfold Ch.recv; rw [hq]
                have : C.kind ≠ 0 := by have := HR.out.kind; omega
                simp only [if_neg this]
              have hokr := Ch.recv_ok C HR.out.ok x.now
              rw [hse] at hox hb4 hokr ⊢
              simp only at hox hb4 hokr ⊢
              have e1 := run_conv w4 hox.rb q0.b.length cx rfl
              have HR4 : Hid (∀ A8' c8' outs' w5, outs' = outs ++ [q0.b] → OS w5 (w.heap.size + 2) A8' c8' outs' → (w4.alloc (.cells #[Value.string (strB q0.b)] 9)).grownBy w5 (A8.map (·.block)) → AtOr A8 A8' (w4.heap.size + 1) →
                  OrdRel w w5 kd m z { C with q := qr } f' A7 c7 ins A8' c8' outs' (k + 1)) := by
                intro A8' c8' outs' w5 ho h8' hg5 h4'
                have hne : ∀ g, A8.map (·.block) = some g → w.heap.size + 2 ≤ g := fun g h => (h84.lt g h).1
                have hb5 : Below w.heap.size w w5 := (hbl4.alloc hbl4.size _).grown hg5 (hbl4.alloc hbl4.size _).size (fun k e => by have := hne k e; omega)
                have g7 : A7 = none ∨ A7.map (·.block) ≠ A8.map (·.block) := by
                  rcases HR.out.ne with h | h
                  · cases h7 : A7 with
                    | none => exact .inl rfl
                    | some a => subst h; exact .inr (by simp)
                  · exact .inr (Ne.symm h)
                have h75 := (h74.alloc (.cells #[Value.string (strB q0.b)] 9)).kept hg5 g7
                have hap := OS.apart (h74.alloc (.cells #[Value.string (strB q0.b)] 9)) g7 (by rw [show (w4.alloc (.cells #[Value.string (strB q0.b)] 9)).heap.size = w4.heap.size + 1 by simp]; exact h4')
                refine ⟨hokr, HR.out.kind, HR.out.most, hf', (hb4.alloc _).grown hg5 (fun e => by have := hne _ e; omega), (hbox4.alloc _).grown hg5 (fun e => by have := hne _ e; omega), hb5, h75, h8', ?_, ?_, by have := HR.out.le; omega⟩
                · rcases hap with h | h
                  · cases h8n : A8' with
                    | none => exact .inl rfl
                    | some a => subst h; exact .inr (by simp)
                  · exact .inr (Ne.symm h)
                · rw [ho, HR.out.eq, hq]; simp
              have hown := h84.alloc (.cells #[Value.string (strB q0.b)] 9)
              have csrc : (w4.alloc (.cells #[Value.string (strB q0.b)] 9)).cell? ⟨w4.heap.size, 0, none⟩ = some (.string (strB q0.b)) := by rw [World.cell?_alloc_at _ _ _ _ rfl]; rfl
              have hbs : w.heap.size + 2 ≤ (w4.alloc (.cells #[Value.string (strB q0.b)] 9)).heap.size := by simp; omega
              have HO := Lib.hid hown
              have HC := Lib.hid csrc
              clear hse hb4 hox hbl4 h74 h84 hbox4 HR hq hokr hown csrc
              go_wp2_with (at_builtin; refine wpList_app_str _ rfl _ _ rfl (w.heap.size + 2) A8 c8 outs _ rfl rfl HO.out w4.heap.size _ q0.b rfl HC.out (by omega) hbs ?_)
              rintro A8' c8' outs' w5 HOE ho5 hg5 h45
              have HR5 : Hid _ := HR4.out A8' c8' outs' w5 HOE.out ho5 hg5 h45
              clear HR4 ho5 hg5 h45 HO HC HOE hbs e1
              go_wp2
              go_roundw
              case rel => exact ⟨k + 1, { C with q := qr }, f', A7, c7, ins, A8', c8', outs', by omega, by omega, by go_num, rfl, rfl, HR5.out⟩
              case measure => simp [intOf]; omega
          · have hrv' : x.recv = false := by simpa using hrv
            rw [hrv'] at c0
            clear hrv hrv'
            have hq4 : (wr.alloc (.cells #[Value.bool false, .slice x.A x.l.length x.c, .int .u64 x.now] 33)).cell? ⟨w.heap.size + 1, 4, none⟩ = some (.int .i64 C.q.length) := (HR.out.blk.alloc _).cell rfl
            have hql : C.q.length ≤ 16 := by have := HR.out.ok.len; have := HR.out.ok.most; omega
            go_wp2_with (go_at_call 12; refine (waiting_calls _ _ _ hq4).mono ?_; rintro e w' ⟨rfl, rfl⟩)
            have hw1 : wr.grownBy (wr.alloc (.cells #[Value.bool false, .slice x.A x.l.length x.c, .int .u64 x.now] 33)) none := World.grownBy_alloc wr _ none
            have hbl1 := HR.out.bel.grown hw1 HR.out.bel.size (fun k e => by cases e)
            have hsz1 : (wr.alloc (.cells #[Value.bool false, .slice x.A x.l.length x.c, .int .u64 x.now] 33)).heap.size = wr.heap.size + 1 := by simp
            have cg : (wr.alloc (.cells #[Value.bool false, .slice x.A x.l.length x.c, .int .u64 x.now] 33)).heap[wr.heap.size]? = some (.cells #[Value.bool false, .slice x.A x.l.length x.c, .int .u64 x.now] 33 (0, 0)) := heap_alloc_new wr _
            have hrb1 := hfit.rb.below ((Below.refl w.heap.size wr).alloc HR.out.bel.size (.cells #[Value.bool false, .slice x.A x.l.length x.c, .int .u64 x.now] 33))
            refine (send_calls _ w.heap.size (w.heap.size + 1) C f x.A x.c x.l x.now HR.out.ok HR.out.f16 (HR.out.blk.alloc _) hrb1 hbl1.size (.inl (by omega)) hfit.len).mono ?_
            rintro e w4 ⟨rfl, ⟨f', hf', hb4⟩, hg4⟩
            have hbl4 := hbl1.grown hg4 hbl1.size (fun k e => by injection e with e; omega)
            have cg4 : w4.heap[wr.heap.size]? = _ := (hg4.block wr.heap.size (by simp) (fun e => by injection e with e; omega)).trans cg
            have c5 : w4.cell? ⟨wr.heap.size, 2, none⟩ = some (.int .u64 x.now) := by rw [cell_of_row w4 _ 2 _ _ _ cg4]; rfl
            have c6 : w4.cell? ⟨wr.heap.size, 1, none⟩ = some (.slice x.A x.l.length x.c) := by rw [cell_of_row w4 _ 1 _ _ _ cg4]; rfl
            have h74 : OS w4 (w.heap.size + 2) A7 c7 ins := (HR.out.os7.alloc _).kept hg4 (by
              cases h : A7.map (·.block) with
              | none => exact .inr (by simp)
              | some g => exact .inr (by have := HR.out.os7.lt g h; intro e; injection e with e; omega))
            have h84 : OS w4 (w.heap.size + 2) A8 c8 outs := (HR.out.os8.alloc _).kept hg4 (by
              cases h : A8.map (·.block) with
              | none => exact .inr (by simp)
              | some g => exact .inr (by have := HR.out.os8.lt g h; intro e; injection e with e; omega))
            have hbox4 : Blk w4 w.heap.size [.int .i64 kd, .int .i64 m, .int .i64 z] := (HR.out.box.alloc _).grown hg4 (by simp)
            have hsz4 := hg4.size
            rw [hsz1] at hsz4
            have hrb4 : RB w4 w.heap.size x.A x.l := hrb1.grown hg4 hbl1.size (fun k e => by injection e with e; omega)
            have e1 := run_conv w4 hrb4 x.l.length x.c rfl
            have hok4 := Ch.send_ok C HR.out.ok x.l x.now hfit.now
            have m0 : w4.cell? ⟨w.heap.size, 1, none⟩ = some (.int .i64 m) := hbox4.cell rfl
            clear hg4 hbl1 c0 c1 c2 hw1 hsz1 cg cg4 hrb1 hq4
            rcases send_cases C HR.out.kind x.l x.now with ⟨e, hse, he⟩ | ⟨lo, hfull, hse⟩ | ⟨hlen, hnf, hse⟩
            · rw [hse] at hb4 hok4 ⊢
              simp only at hb4 hok4 ⊢
              have q4 : w4.cell? ⟨w.heap.size + 1, 4, none⟩ = some (.int .i64 C.q.length) := hb4.cell rfl
              have hle : (C.q.length : Int) ≤ m := by have := HR.out.most; have := HR.out.ok.len; omega
              have HR4 : Hid (OrdRel w w4 kd m z C f' A7 c7 ins A8 c8 outs (k + 1)) := ⟨HR.out.ok, HR.out.kind, HR.out.most, hf', hb4, hbox4, hbl4, h74, h84, HR.out.ne, HR.out.eq, by omega⟩
              clear hse hb4 hok4 hbl4 h74 h84 hbox4 HR hrb4 e1 c5 c6
              rcases he with rfl | rfl
              all_goals
                go_wp2_with fail
                go_quiet ((go_at_call 12; exact Calls.quiet_of_same (waiting_same _ _ _ _ q4)))
                go_wp2
                go_roundw
                case rel => exact ⟨k + 1, C, f', A7, c7, ins, A8, c8, outs, by omega, by omega, by go_num, rfl, rfl, HR4.out.drewN _⟩
                case measure => simp [intOf]; omega
            · rw [hse] at hb4 hok4 ⊢
              simp only at hb4 hok4 ⊢
              have q4 : w4.cell? ⟨w.heap.size + 1, 4, none⟩ = some (.int .i64 C.q.length) := hb4.cell rfl
              have hle : (C.q.length : Int) ≤ m := by have := HR.out.most; have := HR.out.ok.len; omega
              have HR4 : Hid (OrdRel w w4 kd m z { C with lost := lo } f' A7 c7 ins A8 c8 outs (k + 1)) := ⟨hok4, HR.out.kind, HR.out.most, hf', hb4, hbox4, hbl4, h74, h84, HR.out.ne, HR.out.eq, by omega⟩
              clear hse hb4 hok4 hbl4 h74 h84 hbox4 HR hrb4 e1 c5 c6 hfull
              go_wp2_with (go_at_call 12; refine (waiting_calls _ _ _ q4).mono ?_; rintro e w' ⟨rfl, rfl⟩)
              go_quiet ((go_at_call 12; exact Calls.quiet_of_same (waiting_same _ _ _ _ q4)))
              go_wp2
              go_roundw
              case rel => exact ⟨k + 1, { C with lost := lo }, f', A7, c7, ins, A8, c8, outs, by omega, by omega, by go_num, rfl, rfl, HR4.out.drewN _⟩
              case measure => simp [intOf]; omega
            · rw [hse] at hb4 hok4 ⊢
              simp only at hb4 hok4 ⊢
              have q4 : w4.cell? ⟨w.heap.size + 1, 4, none⟩ = some (.int .i64 ((C.q.length : Int) + 1)) := by
                have : w4.cell? ⟨w.heap.size + 1, 4, none⟩ = some (.int .i64 ((C.q ++ [(⟨x.l, x.now⟩ : Msg)]).length : Nat)) := hb4.cell rfl
                rw [this]; simp
              have hle : (C.q.length : Int) + 1 ≤ m := by have := HR.out.most; have := HR.out.ok.len; omega
              have HR4 : Hid (∀ A7' c7' ins' w5, ins' = ins ++ [x.l] → OS w5 (w.heap.size + 2) A7' c7' ins' → (w4.alloc (.cells #[Value.string (strB x.l)] 9)).grownBy w5 (A7.map (·.block)) → AtOr A7 A7' (w4.heap.size + 1) →
                  OrdRel w w5 kd m z { C with q := C.q ++ [⟨x.l, x.now⟩] } f' A7' c7' ins' A8 c8 outs (k + 1) ∧ w5.cell? ⟨w.heap.size + 1, 4, none⟩ = some (.int .i64 ((C.q.length : Int) + 1)) ∧ w5.cell? ⟨w.heap.size, 1, none⟩ = some (.int .i64 m)) := by
                intro A7' c7' ins' w5 ho h7' hg5 h4'
                have hne : ∀ g, A7.map (·.block) = some g → w.heap.size + 2 ≤ g := fun g h => (h74.lt g h).1
                have hb5 : Below w.heap.size w w5 := (hbl4.alloc hbl4.size _).grown hg5 (hbl4.alloc hbl4.size _).size (fun k e => by have := hne k e; omega)
                have h85 := (h84.alloc (.cells #[Value.string (strB x.l)] 9)).kept hg5 HR.out.ne
                have hap := OS.apart (h84.alloc (.cells #[Value.string (strB x.l)] 9)) HR.out.ne (by rw [show (w4.alloc (.cells #[Value.string (strB x.l)] 9)).heap.size = w4.heap.size + 1 by simp]; exact h4')
                have hbb := (hb4.alloc (.cells #[Value.string (strB x.l)] 9)).grown hg5 (fun e => by have := hne _ e; omega)
                have hbx := (hbox4.alloc (.cells #[Value.string (strB x.l)] 9)).grown hg5 (fun e => by have := hne _ e; omega)
                refine ⟨⟨hok4, HR.out.kind, HR.out.most, hf', hbb, hbx, hb5, h7', h85, hap, ?_, ?_⟩, ?_, hbx.cell rfl⟩
                · rw [ho, HR.out.eq]; simp
                · have := HR.out.le; rw [ho]; simp; omega
                · have : w5.cell? ⟨w.heap.size + 1, 4, none⟩ = some (.int .i64 ((C.q ++ [(⟨x.l, x.now⟩ : Msg)]).length : Nat)) := hbb.cell rfl
                  rw [this]; simp
              have hown := h74.alloc (.cells #[Value.string (strB x.l)] 9)
              have csrc : (w4.alloc (.cells #[Value.string (strB x.l)] 9)).cell? ⟨w4.heap.size, 0, none⟩ = some (.string (strB x.l)) := by rw [World.cell?_alloc_at _ _ _ _ rfl]; rfl
              have hbs : w.heap.size + 2 ≤ (w4.alloc (.cells #[Value.string (strB x.l)] 9)).heap.size := by simp; omega
              have HO := Lib.hid hown
              have HC := Lib.hid csrc
              clear hse hb4 hok4 hbl4 h74 h84 hbox4 HR hrb4 c5 hnf hown csrc
              go_wp2_with (first | (go_at_call 12; refine (waiting_calls _ _ _ q4).mono ?_; rintro e w' ⟨rfl, rfl⟩) | (at_builtin; refine wpList_app_str _ rfl _ _ rfl (w.heap.size + 2) A7 c7 ins _ rfl rfl HO.out w4.heap.size _ x.l rfl HC.out (by omega) hbs ?_))
              rintro A7' c7' ins' w5 HOE ho5 hg5 h45
              obtain ⟨HR5', q5, m5⟩ := HR4.out A7' c7' ins' w5 HOE.out ho5 hg5 h45
              have HR5 := Lib.hid HR5'
              clear HR5' HR4 ho5 hg5 h45 HO HC HOE hbs e1 q4 m0 c6
              go_wp2_with fail
              go_quiet ((go_at_call 12; exact Calls.quiet_of_same (waiting_same _ _ _ _ q5)))
              go_wp2
              go_roundw
              case rel => exact ⟨k + 1, { C with q := C.q ++ [⟨x.l, x.now⟩] }, f', A7', c7', ins', A8, c8, outs, by omega, by omega, by go_num, rfl, rfl, HR5.out.drewN _⟩
              case measure => simp [intOf]; omega
        · have hqe : ins.length = outs.length + C.q.length := by rw [R.eq]; simp
          have hq16 : C.q.length ≤ 16 := by have := R.ok.len; have := R.ok.most; omega
          have q4 : wr.cell? ⟨w.heap.size + 1, 4, none⟩ = some (.int .i64 C.q.length) := R.blk.cell rfl
          have hne : ((ins.length : Int) != (outs.length : Int) + (C.q.length : Int)) = false := by rw [bne_eq_false_iff_eq]; omega
          have HR := Lib.hid R; clear R hqe
          obtain hgo | ⟨hg1, hg2⟩ : xs.length ≤ k ∨ (k < xs.length ∧ 80 ≤ k) := by omega
          all_goals
            go_wp2_with (go_at_call 12; refine (waiting_calls _ _ _ q4).mono ?_; rintro e w' ⟨rfl, rfl⟩)
            obtain ⟨wo, hwo⟩ : ∃ wo : World, wo = wr := ⟨_, rfl⟩
            rw [← hwo] at HR q4 ⊢
            clear hwo
            go_loopw [15] (fun s15 wr => ∃ j : Nat, j ≤ outs.length ∧ s15 = .int .i64 j ∧ OrdRel w wr kd m z C f A7 c7 ins A8 c8 outs k) (fun s15 _ => 100 - (intOf s15).toNat)
            case atStart => exact ⟨0, by omega, rfl, HR.out⟩
            case round =>
              obtain ⟨j, hj, rfl, R⟩ := hrel
              by_cases hjl : j < outs.length
              · have hji : j < ins.length := by omega
                obtain ⟨g7, rfl, _, _, d7⟩ := R.os7.get hji
                obtain ⟨g8, rfl, _, _, d8⟩ := R.os8.get hjl
                have he : ins[j] = outs[j] := by
                  have e := R.eq
                  subst e
                  rw [List.getElem_append_left hjl]
                rw [he] at d7
                have HR' := Lib.hid R; clear R he
                go_wp2
                go_region
                all_goals
                  go_wp2
                  go_roundw
                  case rel => exact ⟨j + 1, by omega, by go_num, HR'.out.drewN 1⟩
                  case measure => simp [intOf]; omega
              · have HR' := Lib.hid R; clear R
                go_wp2_with fail
                refine (awake_calls _).mono ?_
                rintro e w3 ⟨rfl, hb3⟩
                go_wp2
                go_ret
                exact ⟨rfl, HR'.out.bel.trans (hb3.mono HR'.out.bel.size)⟩
  · refine (new_bad _ kd m z hz).mono ?_
    rintro e w1 ⟨rfl, rfl⟩
    go_wp2_with fail
    refine (awake_calls _).mono ?_
    rintro e w3 ⟨rfl, hb3⟩
    go_wp2
    go_ret
    exact ⟨rfl, hbel0.trans (hb3.mono hbel0.size)⟩
end Go.Proofs.Ytdjphdkoljfndaa
