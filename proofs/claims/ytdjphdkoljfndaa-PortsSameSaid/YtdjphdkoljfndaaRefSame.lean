/- The document's Same. -/
import Derived.Test.YtdjphdkoljfndaaRefSend
import Derived.Deep.QuietTactic
import Derived.BigQuiet
namespace Go.Proofs.Ytdjphdkoljfndaa
open Go.RowKit Nac
theorem below_drewN {B : Nat} {a w : World} (h : Below B a w) (n : Nat) : Below B a (w.drewN n) := ⟨h.os, h.tape, h.output, h.size, h.block⟩
theorem msg_ext (x y : Msg) (h1 : x.b = y.b) (h2 : x.at_ = y.at_) : x = y := by cases x; cases y; simp_all
def RetB (w : World) (b : Bool) (e : Ending) (w' : World) : Prop := e = .returned (.bool b) ∧ Below w.heap.size w w'
set_option maxHeartbeats 4000000 in
theorem refsame_calls (w : World) (C D : Ch) (hC : C.ok) (hD : D.ok) (v u : Value) (h : RCh w C v) (h' : RCh w D u) :
    Calls Try.prog 16 #[v, u] w (RetB w (decide (C = D))) := by
  have hlen := hC.len
  have hmost := hC.most
  have hlen' := hD.len
  have hmost' := hD.most
  obtain ⟨k, m, s, lo, q⟩ := C
  obtain ⟨k', m', s', lo', q'⟩ := D
  obtain ⟨A, c, rfl, hr, hc⟩ := h
  obtain ⟨A', c', rfl, hr', hc'⟩ := h'
  simp only at hlen hmost hlen' hmost' hr hc hr' hc'
  simp only
  obtain ⟨n, hn⟩ : ∃ n, n = q.length := ⟨_, rfl⟩
  obtain ⟨n', hn'⟩ : ∃ n', n' = q'.length := ⟨_, rfl⟩
  have HN := Lib.hid hn
  have HN' := Lib.hid hn'
  have HR := Lib.hid hr
  have HR' := Lib.hid hr'
  rw [← hn] at hlen hc ⊢
  rw [← hn'] at hlen' hc' ⊢
  clear hn hn' hr hr' hC hD
  have HB : Hid (∀ o1 o2 : Obj, Below w.heap.size w ((w.alloc o1).alloc o2)) := Lib.hid fun o1 o2 => ((Below.refl _ _).alloc (Nat.le_refl _) _).alloc (by simp) _
  have HF : Hid (∀ (p : Prop) [Decidable p] (w' : World), ¬ p → Below w.heap.size w w' → RetB w (decide p) (.returned (.bool false)) w') := Lib.hid fun p _ w' hp hb => ⟨by rw [decide_eq_false hp], hb⟩
  by_cases hk : k = k'
  · subst hk
    by_cases hm : m = m'
    · subst hm
      by_cases hs : s = s'
      · subst hs
        by_cases hnn : n = n'
        · subst hnn
          obtain ⟨li, hli⟩ : ∃ li : Int, Hid (li = (lo : Int)) := ⟨_, rfl⟩
          obtain ⟨li', hli'⟩ : ∃ li' : Int, Hid (li' = (lo' : Int)) := ⟨_, rfl⟩
          rw [← hli.out, ← hli'.out]
          by_cases hl : li = li'
          · obtain rfl : lo = lo' := by have := hli.out; have := hli'.out; omega
            subst hl
            clear hli'
            have HBx : Hid (Blk ((w.alloc (.cells #[.int .i64 k, .int .i64 m, .int .i64 s, .slice A n c, .int .u64 li] 48)).alloc (.cells #[.int .i64 k, .int .i64 m, .int .i64 s, .slice A' n c', .int .u64 li] 48)) w.heap.size [.int .i64 k, .int .i64 m, .int .i64 s, .slice A n c, .int .u64 li]) := (Blk.new w _ _).alloc _
            have HBy : Hid (Blk ((w.alloc (.cells #[.int .i64 k, .int .i64 m, .int .i64 s, .slice A n c, .int .u64 li] 48)).alloc (.cells #[.int .i64 k, .int .i64 m, .int .i64 s, .slice A' n c', .int .u64 li] 48)) (w.heap.size + 1) [.int .i64 k, .int .i64 m, .int .i64 s, .slice A' n c', .int .u64 li]) := Lib.hid <| by
              have := Blk.new (w.alloc (.cells #[.int .i64 k, .int .i64 m, .int .i64 s, .slice A n c, .int .u64 li] 48)) [.int .i64 k, .int .i64 m, .int .i64 s, .slice A' n c', .int .u64 li] 48
              rwa [show (w.alloc (.cells #[.int .i64 k, .int .i64 m, .int .i64 s, .slice A n c, .int .u64 li] 48)).heap.size = w.heap.size + 1 by simp] at this
            go_enter Try.func16, Try.ntmps16
            go_wp2
            obtain ⟨w0, hw0⟩ : ∃ w0, w0 = ((w.alloc (.cells #[.int .i64 k, .int .i64 m, .int .i64 s, .slice A n c, .int .u64 li] 48)).alloc (.cells #[.int .i64 k, .int .i64 m, .int .i64 s, .slice A' n c', .int .u64 li] 48)) := ⟨_, rfl⟩
            have HB0 : Hid (Below w.heap.size w w0) := Lib.hid (by rw [hw0]; exact HB.out _ _)
            rw [← hw0] at HBx HBy ⊢
            clear hw0 HB
            go_loopw [5] (fun s5 wr => ∃ (i : Nat), i ≤ n ∧ s5 = .int .i64 i ∧ Hid (q.take i = q'.take i) ∧ Hid (Below w0.heap.size w0 wr)) (fun s5 _ => n - (intOf s5).toNat)
            case atStart => exact ⟨0, Nat.zero_le _, rfl, Lib.hid (by simp), Lib.hid (Below.refl _ _)⟩
            case round =>
              obtain ⟨i, hi, rfl, HT, HBW⟩ := hrel
              have hx := HBx.out.below HBW.out HBx.out.lt
              have hy := HBy.out.below HBW.out HBy.out.lt
              have x3 : wr.cell? ⟨w.heap.size, 3, none⟩ = some (.slice A n c) := hx.cell rfl
              have y3 : wr.cell? ⟨w.heap.size + 1, 3, none⟩ = some (.slice A' n c') := hy.cell rfl
              have HWW : Hid (Below w.heap.size w wr) := Lib.hid (HB0.out.trans (HBW.out.mono HB0.out.size))
              by_cases hlt : i < n
              · have hiq : i < q.length := by rw [← HN.out]; exact hlt
                have hiq' : i < q'.length := by rw [← HN'.out]; exact hlt
                obtain ⟨b, o, hA, hb, h0, h1⟩ := (HR.out.below HWW.out).get hiq
                obtain ⟨b', o', hA', hb', h0', h1'⟩ := (HR'.out.below HWW.out).get hiq'
                subst hA
                subst hA'
                obtain ⟨x, hx'⟩ : ∃ x, x = q[i] := ⟨_, rfl⟩
                obtain ⟨y, hy'⟩ : ∃ y, y = q'[i] := ⟨_, rfl⟩
                rw [← hx'] at h0 h1
                rw [← hy'] at h0' h1'
                by_cases hxy : x = y
                · have HT' : Hid (q.take (i + 1) = q'.take (i + 1)) := Lib.hid <| by
                    rw [List.take_succ_eq_append_getElem hiq, List.take_succ_eq_append_getElem hiq', HT.out, ← hx', ← hy', hxy]
                  subst hxy
                  clear hx' hy' hiq hiq' hx hy hb hb' HT
                  go_wp2
                  go_quiet (fail)
                  go_wp2
                  go_roundw
                  case rel => exact ⟨i + 1, by omega, by go_num, HT', Lib.hid (below_drewN HBW.out _)⟩
                  case measure => simp [intOf]; omega
                · have HP : Hid (¬ (Ch.mk k m s lo q = Ch.mk k m s lo q')) := Lib.hid <| by
                    intro e
                    injection e with _ _ _ _ e
                    subst e
                    exact hxy (hx'.trans hy'.symm)
                  clear hx' hy' hiq hiq' hx hy hb hb' HT
                  obtain ⟨xb, xa⟩ := x
                  obtain ⟨yb, ya⟩ := y
                  simp only at h0 h1 h0' h1'
                  by_cases hbb : xb = yb
                  · subst hbb
                    have hne : ¬ xa = ya := fun e => hxy (by rw [e])
                    have hne' : ¬ (xa : Int) = (ya : Int) := by omega
                    clear hxy
                    go_wp2
                    go_quiet (fail)
                    go_wp2
                    go_ret
                    exact HF.out _ _ HP.out (below_drewN HWW.out _)
                  · have hne : ¬ (strB xb).toList = (strB yb).toList := by
                      intro e
                      apply hbb
                      rw [strB_toList, strB_toList] at e
                      exact e
                    clear hxy hbb
                    go_wp2
                    go_quiet (fail)
                    go_wp2
                    go_ret
                    exact HF.out _ _ HP.out (below_drewN HWW.out _)
              · have hin : i = n := by omega
                have hqq : q = q' := by
                  have := HT.out
                  rwa [List.take_of_length_le (by rw [← HN.out]; omega), List.take_of_length_le (by rw [← HN'.out]; omega)] at this
                have HP : Hid (Ch.mk k m s lo q = Ch.mk k m s lo q') := Lib.hid (by rw [hqq])
                clear hqq hin hx hy HT
                go_wp2
                go_ret
                have HG : RetB w (decide (Ch.mk k m s lo q = Ch.mk k m s lo q')) (.returned (.bool true)) wr := ⟨by rw [decide_eq_true HP.out], HWW.out⟩
                exact HG
          · have HP : Hid (¬ (Ch.mk k m s lo q = Ch.mk k m s lo' q')) := Lib.hid (by intro e; injection e with _ _ _ e _; apply hl; rw [hli.out, hli'.out, e])
            have hl' : (li == li') = false := by simpa using hl
            go_enter Try.func16, Try.ntmps16
            go_wp2
            go_ret
            exact HF.out _ _ HP.out (HB.out _ _)
        · have HP : Hid (¬ (Ch.mk k m s lo q = Ch.mk k m s lo' q')) := Lib.hid (by intro e; injection e with _ _ _ _ e; apply hnn; rw [HN.out, HN'.out, e])
          have hl' : (n == n') = false := by simpa using hnn
          go_enter Try.func16, Try.ntmps16
          go_wp2
          go_ret
          exact HF.out _ _ HP.out (HB.out _ _)
      · have HP : Hid (¬ (Ch.mk k m s lo q = Ch.mk k m s' lo' q')) := Lib.hid (by intro e; injection e with _ _ e; exact hs e)
        have hl' : (s == s') = false := by simpa using hs
        go_enter Try.func16, Try.ntmps16
        go_wp2
        go_ret
        exact HF.out _ _ HP.out (HB.out _ _)
    · have HP : Hid (¬ (Ch.mk k m s lo q = Ch.mk k m' s' lo' q')) := Lib.hid (by intro e; injection e with _ e; exact hm e)
      have hl' : (m == m') = false := by simpa using hm
      go_enter Try.func16, Try.ntmps16
      go_wp2
      go_ret
      exact HF.out _ _ HP.out (HB.out _ _)
  · have HP : Hid (¬ (Ch.mk k m s lo q = Ch.mk k' m' s' lo' q')) := Lib.hid (by intro e; injection e with e; exact hk e)
    have hl' : (k == k') = false := by simpa using hk
    go_enter Try.func16, Try.ntmps16
    go_wp2
    go_ret
    exact HF.out _ _ HP.out (HB.out _ _)
end Go.Proofs.Ytdjphdkoljfndaa
