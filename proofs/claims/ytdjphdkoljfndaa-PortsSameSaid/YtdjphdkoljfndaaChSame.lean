/- Same. -/
import Derived.Test.YtdjphdkoljfndaaChEq
import Derived.Test.YtdjphdkoljfndaaPortAt
import Derived.Test.YtdjphdkoljfndaaVal
import Derived.Deep.QuietTactic
import Derived.BigQuiet
namespace Go.Proofs.Ytdjphdkoljfndaa
open Go.RowKit Nac
def RetQ (w : World) (b : Bool) (e : Ending) (w' : World) : Prop := e = .returned (.bool b) ∧ ∃ n, w' = w.drewN n
theorem drewN_drewN (w : World) (a b : Nat) : ∃ n, (w.drewN a).drewN b = w.drewN n := ⟨a + b, by simp [World.drewN, Nat.add_assoc]⟩
theorem drew_drewN (w : World) (a : Nat) : ∃ n, (w.drewN a).drew = w.drewN n := ⟨a + 1, by simp [World.drewN, World.drew, Nat.add_assoc]⟩
set_option maxHeartbeats 4000000 in
set_option maxRecDepth 100000 in
theorem same_calls (w : World) (b f b' f' : Nat) (C D : Ch) (hC : C.ok) (hD : D.ok) (hf : f < 16) (hf' : f' < 16) (h : Blk w b (ccells C f)) (h' : Blk w b' (ccells D f')) :
    Calls Try.prog 15 #[.pointer (some ⟨b, 0, none⟩), .pointer (some ⟨b', 0, none⟩)] w (RetQ w (decide (C = D))) := by
  have hlen := hC.len
  have hmost := hC.most
  have hlen' := hD.len
  have hmost' := hD.most
  have HC := Lib.hid hC
  have HD := Lib.hid hD
  have HB := Lib.hid h
  have HB' := Lib.hid h'
  have HF16 := Lib.hid hf
  have HF16' := Lib.hid hf'
  have c0 : w.cell? ⟨b, 0, none⟩ = some (.int .i64 C.kind) := h.cell rfl
  have c1 : w.cell? ⟨b, 1, none⟩ = some (.int .i64 C.most) := h.cell rfl
  have c2 : w.cell? ⟨b, 2, none⟩ = some (.int .i64 C.size) := h.cell rfl
  have c4 : w.cell? ⟨b, 4, none⟩ = some (.int .i64 C.q.length) := h.cell rfl
  have c5 : w.cell? ⟨b, 5, none⟩ = some (.int .u64 C.lost) := h.cell rfl
  have d0 : w.cell? ⟨b', 0, none⟩ = some (.int .i64 D.kind) := h'.cell rfl
  have d1 : w.cell? ⟨b', 1, none⟩ = some (.int .i64 D.most) := h'.cell rfl
  have d2 : w.cell? ⟨b', 2, none⟩ = some (.int .i64 D.size) := h'.cell rfl
  have d4 : w.cell? ⟨b', 4, none⟩ = some (.int .i64 D.q.length) := h'.cell rfl
  have d5 : w.cell? ⟨b', 5, none⟩ = some (.int .u64 D.lost) := h'.cell rfl
  clear h h' hC hD hf hf'
  obtain ⟨k, m, s, lo, q⟩ := C
  obtain ⟨k', m', s', lo', q'⟩ := D
  simp only at hlen hmost hlen' hmost' c0 c1 c2 c4 c5 d0 d1 d2 d4 d5
  obtain ⟨n, hn⟩ : ∃ n, n = q.length := ⟨_, rfl⟩
  obtain ⟨n', hn'⟩ : ∃ n', n' = q'.length := ⟨_, rfl⟩
  have HN := Lib.hid hn
  have HN' := Lib.hid hn'
  rw [← hn] at hlen c4
  rw [← hn'] at hlen' d4
  clear hn hn'
  have HF : Hid (∀ (p : Prop) [Decidable p] (N : Nat), ¬ p → RetQ w (decide p) (.returned (.bool false)) (w.drewN N)) := Lib.hid fun p _ N hp => ⟨by rw [decide_eq_false hp], N, rfl⟩
  have HF2 : Hid (∀ (p : Prop) [Decidable p] (N M : Nat), ¬ p → RetQ w (decide p) (.returned (.bool false)) ((w.drewN N).drewN M)) := Lib.hid fun p _ N M hp => ⟨by rw [decide_eq_false hp], drewN_drewN w N M⟩
  by_cases hk : k = k'
  · subst hk
    by_cases hm : m = m'
    · subst hm
      by_cases hs : s = s'
      · subst hs
        by_cases hnn : n = n'
        · subst hnn
          obtain ⟨li, hli⟩ : ∃ li : Int, Hid (li = (lo : Int)) := ⟨_, rfl⟩
          obtain ⟨li', hli'⟩ : ∃ li' : Int, Hid (li' = (lo' : Int)) := ⟨_, rfl⟩
          rw [← hli.out] at c5
          rw [← hli'.out] at d5
          by_cases hl : li = li'
          · obtain rfl : lo = lo' := by have := hli.out; have := hli'.out; omega
            subst hl
            clear hli'
            go_enter Try.func15, Try.ntmps15
            go_wp2
            go_quiet (fail)
            go_wp2
            go_quiet (fail)
            go_wp2
            clear HF2 c0 c1 c2 c4 c5 d0 d1 d2 d4 d5
            go_loopw [65] (fun s65 wr => ∃ (i : Nat), i ≤ n ∧ s65 = .int .i64 i ∧ Hid (q.take i = q'.take i) ∧ Hid (∃ N, wr = w.drewN N)) (fun s65 _ => n - (intOf s65).toNat)
            case atStart => exact ⟨0, Nat.zero_le _, rfl, Lib.hid (by simp), Lib.hid ⟨_, rfl⟩⟩
            case round =>
              obtain ⟨i, hi, rfl, HT, HW⟩ := hrel
              by_cases hlt : i < n
              · have hiq : i < q.length := by rw [← HN.out]; exact hlt
                have hiq' : i < q'.length := by rw [← HN'.out]; exact hlt
                obtain ⟨x, hx'⟩ : ∃ x, x = q[i] := ⟨_, rfl⟩
                obtain ⟨y, hy'⟩ : ∃ y, y = q'[i] := ⟨_, rfl⟩
                have HXF : Hid (x.b.length ≤ 64) := Lib.hid (by rw [hx']; exact (HC.out.fit _ (List.getElem_mem hiq)).1)
                have HYF : Hid (y.b.length ≤ 64) := Lib.hid (by rw [hy']; exact (HD.out.fit _ (List.getElem_mem hiq')).1)
                have HTS : Hid (x = y → q.take (i + 1) = q'.take (i + 1)) := Lib.hid fun e => by rw [List.take_succ_eq_append_getElem hiq, List.take_succ_eq_append_getElem hiq', HT.out, ← hx', ← hy', e]
                have HNE : Hid (x ≠ y → ¬ (Ch.mk k m s lo q = Ch.mk k m s lo q')) := Lib.hid fun hne e => by
                  injection e with _ _ _ _ e
                  subst e
                  exact hne (hx'.trans hy'.symm)
                have hi16 : i ≤ 16 := by omega
                have AX : Hid (∀ (LL : Nat → Bool) (w' : World), (∃ N, w' = w.drewN N) → ∀ {j : Nat}, LL j = false → Calls Try.prog 19 #[.pointer (some ⟨b, 0, none⟩), .int .i64 (i : Int)] w' fun e w'' => ∃ v, e = .returned v ∧ v = .pointer (some ⟨b, 6 + 66 * ((f + i) % 16), none⟩) ∧ ∃ N, w'' = w.drewN N) := Lib.hid fun LL w' hw j _ => by
                  obtain ⟨N, rfl⟩ := hw
                  refine (at_calls (w.drewN N) b f i HF16.out hi16 (HB.out.cell rfl)).mono ?_
                  rintro e w'' ⟨rfl, rfl⟩
                  exact ⟨_, rfl, rfl, drew_drewN w N⟩
                have AY : Hid (∀ (LL : Nat → Bool) (w' : World), (∃ N, w' = w.drewN N) → ∀ {j : Nat}, LL j = false → Calls Try.prog 19 #[.pointer (some ⟨b', 0, none⟩), .int .i64 (i : Int)] w' fun e w'' => ∃ v, e = .returned v ∧ v = .pointer (some ⟨b', 6 + 66 * ((f' + i) % 16), none⟩) ∧ ∃ N, w'' = w.drewN N) := Lib.hid fun LL w' hw j _ => by
                  obtain ⟨N, rfl⟩ := hw
                  refine (at_calls (w.drewN N) b' f' i HF16'.out hi16 (HB'.out.cell rfl)).mono ?_
                  rintro e w'' ⟨rfl, rfl⟩
                  exact ⟨_, rfl, rfl, drew_drewN w N⟩
                have LX : Hid (∀ w' : World, (∃ N, w' = w.drewN N) → (Instr.loadAt 59 (.pointer (some ⟨b, 6 + 66 * ((f + i) % 16), none⟩))).run Try.prog w' = .ok (.agg (mcells x).toArray) w') := Lib.hid fun w' hw => by
                  obtain ⟨N, rfl⟩ := hw
                  have hsl := ccells_slot _ HC.out f ((f + i) % 16) (Nat.mod_lt _ (by decide))
                  rw [slot_nth f q HF16.out (by have := HN.out; omega) i hiq, ← hx'] at hsl
                  exact run_loadAt_mid (w.drewN N) b _ 59 (mcells x) _ (Blk.range (w := w.drewN N) HB.out _ _ hsl) Try.underlying59 rfl (by rw [infoMsg, mcells_len x HXF.out])
                have LY : Hid (∀ w' : World, (∃ N, w' = w.drewN N) → (Instr.loadAt 59 (.pointer (some ⟨b', 6 + 66 * ((f' + i) % 16), none⟩))).run Try.prog w' = .ok (.agg (mcells y).toArray) w') := Lib.hid fun w' hw => by
                  obtain ⟨N, rfl⟩ := hw
                  have hsl := ccells_slot _ HD.out f' ((f' + i) % 16) (Nat.mod_lt _ (by decide))
                  rw [slot_nth f' q' HF16'.out (by have := HN'.out; omega) i hiq', ← hy'] at hsl
                  exact run_loadAt_mid (w.drewN N) b' _ 59 (mcells y) _ (Blk.range (w := w.drewN N) HB'.out _ _ hsl) Try.underlying59 rfl (by rw [infoMsg, mcells_len y HYF.out])
                have HJ0 : Hid (∃ N, wr.drew = w.drewN N) := Lib.hid <| by obtain ⟨N, h⟩ := HW.out; rw [h]; exact drew_drewN w N
                clear hx' hy' hiq hiq' HT HW
                go_wp2
                refine region_vals [.pointer (some ⟨b, 0, none⟩), .int .i64 (i : Int), .pointer (some ⟨b, 6 + 66 * ((f + i) % 16), none⟩), .pointer (some ⟨b, 6 + 66 * ((f + i) % 16), none⟩), .agg (mcells x).toArray, .pointer (some ⟨b', 0, none⟩), .int .i64 (i : Int), .pointer (some ⟨b', 6 + 66 * ((f' + i) % 16), none⟩), .pointer (some ⟨b', 6 + 66 * ((f' + i) % 16), none⟩), .agg (mcells y).toArray, .bool (!decide (x = y))] [some 68, some 69, some 70, some 71, some 72, some 73, some 74, some 75, some 76, some 77, some 78] (fun _ w' => ∃ N, w' = w.drewN N) (by kernel_rfl) (by kernel_rfl) (by kernel_rfl) rfl rfl HJ0.out (fun ii hii => ?_) ?_
                · match ii, hii with
                  | 0, _ => exact vstep_first rfl (vwant_none rfl) (fun _ _ h => h) 0 (Or.inl rfl) (by kernel_rfl) rfl
                  | 1, _ => exact vstep_first rfl (vwant_none rfl) (fun _ _ h => h) 5 (Or.inl rfl) (by kernel_rfl) rfl
                  | 2, _ => exact vstep_call rfl (vwant_none rfl) _ _ _ rfl (enters_of Try.func19 (by kernel_rfl) rfl) (fun LL aa ww cc => by have e0 : aa.tmps.getD 68 undef = .pointer (some ⟨b, 0, none⟩) := cc.slot 0 68 (by kernel_rfl) rfl; have e1 : aa.tmps.getD 69 undef = .int .i64 (i : Int) := cc.slot 1 69 (by kernel_rfl) rfl; simp only [List.map_toArray, List.map_cons, List.map_nil, Act.eval, e0, e1]; exact (AX.out) LL ww cc.world cc.fresh)
                  | 3, _ => exact vstep_pure rfl (vwant_none rfl) (fun _ _ h => h) (fun LL aa ww cc => ⟨.pointer (some ⟨b, 6 + 66 * ((f + i) % 16), none⟩), by have e0 : aa.tmps.getD 70 undef = .pointer (some ⟨b, 6 + 66 * ((f + i) % 16), none⟩) := cc.slot 2 70 (by kernel_rfl) rfl; simp only [execOp, Act.eval, e0]; go_simp, rfl⟩)
                  | 4, _ => exact vstep_load rfl (vwant_none rfl) (fun _ _ h => h) 71 _ rfl 3 (by kernel_rfl) rfl (.pointer (some ⟨b, 6 + 66 * ((f + i) % 16), none⟩)) _ (fun _ h => h) rfl (fun L w hj => LX.out w hj)
                  | 5, _ => exact vstep_first rfl (vwant_none rfl) (fun _ _ h => h) 1 (Or.inl rfl) (by kernel_rfl) rfl
                  | 6, _ => exact vstep_first rfl (vwant_none rfl) (fun _ _ h => h) 5 (Or.inl rfl) (by kernel_rfl) rfl
                  | 7, _ => exact vstep_call rfl (vwant_none rfl) _ _ _ rfl (enters_of Try.func19 (by kernel_rfl) rfl) (fun LL aa ww cc => by have e0 : aa.tmps.getD 73 undef = .pointer (some ⟨b', 0, none⟩) := cc.slot 5 73 (by kernel_rfl) rfl; have e1 : aa.tmps.getD 74 undef = .int .i64 (i : Int) := cc.slot 6 74 (by kernel_rfl) rfl; simp only [List.map_toArray, List.map_cons, List.map_nil, Act.eval, e0, e1]; exact (AY.out) LL ww cc.world cc.fresh)
                  | 8, _ => exact vstep_pure rfl (vwant_none rfl) (fun _ _ h => h) (fun LL aa ww cc => ⟨.pointer (some ⟨b', 6 + 66 * ((f' + i) % 16), none⟩), by have e0 : aa.tmps.getD 75 undef = .pointer (some ⟨b', 6 + 66 * ((f' + i) % 16), none⟩) := cc.slot 7 75 (by kernel_rfl) rfl; simp only [execOp, Act.eval, e0]; go_simp, rfl⟩)
                  | 9, _ => exact vstep_load rfl (vwant_none rfl) (fun _ _ h => h) 76 _ rfl 8 (by kernel_rfl) rfl (.pointer (some ⟨b', 6 + 66 * ((f' + i) % 16), none⟩)) _ (fun _ h => h) rfl (fun L w hj => LY.out w hj)
                  | 10, _ => exact vstep_bin rfl (vwant_none rfl) (fun _ _ h => h) _ _ _ 72 77 rfl 4 9 (by kernel_rfl) (by kernel_rfl) rfl rfl _ _ _ (fun _ h => h) (fun _ h => h) rfl (fun w => run_neq_msg w _ _ x y HXF.out HYF.out)
                  | n + 11, h => exact absurd h (by show ¬ (n + 11 < 11); omega)
                · intro L0 w5 hall hJ
                  have HJ : Hid (∃ N, w5 = w.drewN N) := Lib.hid hJ
                  clear hall hJ HJ0 AX AY LX LY
                  refine (by assumption : ∀ (a : Act) (w : World), Code.wp _ _ _ a w → _) _ _ ?_
                  simp only [List.zip_cons_cons, List.zip_nil_right, putsL]
                  by_cases hxy : x = y
                  · have HT' : Hid (q.take (i + 1) = q'.take (i + 1)) := Lib.hid (HTS.out hxy)
                    rw [decide_eq_true hxy]
                    clear hxy HTS HNE
                    go_simp
                    go_wp2
                    go_roundw
                    case rel => exact ⟨i + 1, by omega, by go_num, HT', HJ⟩
                    case measure => simp [intOf]; omega
                  · have HP := Lib.hid (HNE.out hxy)
                    rw [decide_eq_false hxy]
                    clear hxy HTS HNE
                    go_simp
                    go_wp2
                    go_ret
                    obtain ⟨N, hN⟩ := HJ.out
                    rw [hN]
                    exact HF.out _ _ HP.out
              · have hin : i = n := by omega
                have hqq : q = q' := by
                  have := HT.out
                  rwa [List.take_of_length_le (by rw [← HN.out]; omega), List.take_of_length_le (by rw [← HN'.out]; omega)] at this
                have HP : Hid (Ch.mk k m s lo q = Ch.mk k m s lo q') := Lib.hid (by rw [hqq])
                clear hqq hin HT
                go_wp2
                go_ret
                obtain ⟨N, hN⟩ := HW.out
                have HG : RetQ w (decide (Ch.mk k m s lo q = Ch.mk k m s lo q')) (.returned (.bool true)) wr := ⟨by rw [decide_eq_true HP.out], N, hN⟩
                exact HG
          · have HP : Hid (¬ (Ch.mk k m s lo q = Ch.mk k m s lo' q')) := Lib.hid (by intro e; injection e with _ _ _ e _; apply hl; rw [hli.out, hli'.out, e])
            have hl' : (li == li') = false := by simpa using hl
            go_enter Try.func15, Try.ntmps15
            go_wp2
            go_quiet (fail)
            go_wp2
            go_quiet (fail)
            go_wp2
            go_ret
            exact HF2.out _ _ _ HP.out
        · have HP : Hid (¬ (Ch.mk k m s lo q = Ch.mk k m s lo' q')) := Lib.hid (by intro e; injection e with _ _ _ _ e; apply hnn; rw [HN.out, HN'.out, e])
          obtain ⟨xi, hxi⟩ : ∃ xi : Int, Hid (xi = (n : Int)) := ⟨_, rfl⟩
          obtain ⟨yi, hyi⟩ : ∃ yi : Int, Hid (yi = (n' : Int)) := ⟨_, rfl⟩
          rw [← hxi.out] at c4
          rw [← hyi.out] at d4
          have hl' : (xi != yi) = true := by have := hxi.out; have := hyi.out; simp; omega
          clear hnn
          go_enter Try.func15, Try.ntmps15
          go_wp2
          go_quiet (fail)
          go_wp2
          go_quiet (fail)
          go_wp2
          go_ret
          exact HF2.out _ _ _ HP.out
      · have HP : Hid (¬ (Ch.mk k m s lo q = Ch.mk k m s' lo' q')) := Lib.hid (by intro e; injection e with _ _ e; exact hs e)
        obtain ⟨xi, hxi⟩ : ∃ xi : Int, Hid (xi = (s : Int)) := ⟨_, rfl⟩
        obtain ⟨yi, hyi⟩ : ∃ yi : Int, Hid (yi = (s' : Int)) := ⟨_, rfl⟩
        rw [← hxi.out] at c2
        rw [← hyi.out] at d2
        have hl' : (xi != yi) = true := by have := hxi.out; have := hyi.out; simp; omega
        clear hs
        go_enter Try.func15, Try.ntmps15
        go_wp2
        go_quiet (fail)
        go_wp2
        go_ret
        exact HF.out _ _ HP.out
    · have HP : Hid (¬ (Ch.mk k m s lo q = Ch.mk k m' s' lo' q')) := Lib.hid (by intro e; injection e with _ e; exact hm e)
      obtain ⟨xi, hxi⟩ : ∃ xi : Int, Hid (xi = (m : Int)) := ⟨_, rfl⟩
      obtain ⟨yi, hyi⟩ : ∃ yi : Int, Hid (yi = (m' : Int)) := ⟨_, rfl⟩
      rw [← hxi.out] at c1
      rw [← hyi.out] at d1
      have hl' : (xi != yi) = true := by have := hxi.out; have := hyi.out; simp; omega
      clear hm
      go_enter Try.func15, Try.ntmps15
      go_wp2
      go_quiet (fail)
      go_wp2
      go_ret
      exact HF.out _ _ HP.out
  · have HP : Hid (¬ (Ch.mk k m s lo q = Ch.mk k' m' s' lo' q')) := Lib.hid (by intro e; injection e with e; exact hk e)
    obtain ⟨xi, hxi⟩ : ∃ xi : Int, Hid (xi = (k : Int)) := ⟨_, rfl⟩
    obtain ⟨yi, hyi⟩ : ∃ yi : Int, Hid (yi = (k' : Int)) := ⟨_, rfl⟩
    rw [← hxi.out] at c0
    rw [← hyi.out] at d0
    have hl' : (xi != yi) = true := by have := hxi.out; have := hyi.out; simp; omega
    clear hk
    go_enter Try.func15, Try.ntmps15
    go_wp2
    go_quiet (fail)
    go_wp2
    go_ret
    exact HF.out _ _ HP.out
end Go.Proofs.Ytdjphdkoljfndaa
