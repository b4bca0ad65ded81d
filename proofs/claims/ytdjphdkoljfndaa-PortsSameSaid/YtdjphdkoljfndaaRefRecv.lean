/- The document's Receive. -/
import Derived.Test.YtdjphdkoljfndaaRefCh
namespace Go.Proofs.Ytdjphdkoljfndaa
open Go.RowKit Nac
def RetRR (w : World) (B : Nat) (C : Ch) (now : Nat) (e : Ending) (w' : World) : Prop :=
  ∃ v, e = .returned (.tuple #[v, .string (strB (C.recv now).2.1), .int .u64 (C.recv now).2.2.1, .int .i64 (C.recv now).2.2.2]) ∧ RChB w' B (C.recv now).1 v ∧ Below w.heap.size w w'
theorem retrr {w w' : World} {B : Nat} {C C' : Ch} {now : Nat} {l : List UInt8} {g : Nat} {z : Int} {v : Value} (hs : C.recv now = (C', l, g, z)) (hv : RChB w' B C' v) (hb : Below w.heap.size w w') : RetRR w B C now (.returned (.tuple #[v, .string (strB l), .int .u64 g, .int .i64 z])) w' := by
  unfold RetRR
  rw [hs]
  exact ⟨v, rfl, hv, hb⟩
set_option maxHeartbeats 2000000 in
theorem refrecv_none (w : World) (B : Nat) (C : Ch) (now : Nat) (v : Value) (h : RChB w B C v) (hq : C.q = []) :
    Calls Try.prog 22 #[v, .int .u64 now] w (RetRR w B C now) := by
  obtain ⟨k, m, s, lo, q⟩ := C
  simp only at hq
  subst hq
  obtain ⟨A, c, rfl, hr, hc⟩ := h
  simp only [List.length_nil]
  go_enter Try.func22, Try.ntmps22
  go_wp2
  have hb : Below w.heap.size w ((w.alloc (.cells #[.int .i64 k, .int .i64 m, .int .i64 s, .slice A 0 c, .int .u64 lo] 48)).alloc (.cells #[.int .i64 k, .int .i64 m, .int .i64 s, .slice A 0 c, .int .u64 lo] 48)) := ((Below.refl _ _).alloc (Nat.le_refl _) _).alloc (by simp) _
  exact bodyPost_ret (v := .tuple #[.agg #[_, _, _, _, _], .string ⟨#[]⟩, .int .u64 0, .int .i64 6]) (by simp [results, Try.results22, go_sem]) rfl (retrr (C' := ⟨k, m, s, lo, []⟩) (l := []) (g := 0) (z := 6) rfl ⟨A, c, rfl, RQ.nil _ _ _, hc⟩ hb)
set_option maxHeartbeats 4000000 in
theorem refrecv_some (w : World) (B : Nat) (hB : B ≤ w.heap.size) (C : Ch) (hC : C.ok) (now : Nat) (v : Value) (h : RChB w B C v) (x : Msg) (r : List Msg) (hq : C.q = x :: r) (hnow : now ≤ 18446744073709551615) :
    Calls Try.prog 22 #[v, .int .u64 now] w (RetRR w B C now) := by
  have hfit := hC.fit x (by rw [hq]; exact List.mem_cons_self)
  have hlen := hC.len
  have hmost := hC.most
  obtain ⟨k, m, s, lo, q⟩ := C
  simp only at hq hlen hmost
  subst hq
  obtain ⟨A, c, rfl, hr, hc⟩ := h
  simp only [List.length_cons] at hc hlen
  obtain ⟨b, o, hA, hb', h0, h1⟩ := hr.get (j := 0) (by simp)
  have hb : b < w.heap.size := Nat.lt_of_lt_of_le hb' hB
  subst hA
  simp only [List.getElem_cons_zero, Nat.zero_mul, Nat.add_zero] at h0 h1
  obtain ⟨xb, xa⟩ := x
  simp only at h0 h1 hfit
  have hxa := hfit.2
  have HR := Lib.hid hr
  clear hr hC hfit
  have hbb : ∀ (o1 o2 o3 : Obj), RQ (((w.alloc o1).alloc o2).alloc o3).drew B (some ⟨b, o, none⟩) (⟨xb, xa⟩ :: r) := fun o1 o2 o3 => by
    have hw : Below w.heap.size w (((w.alloc o1).alloc o2).alloc o3).drew := ((((Below.refl _ _).alloc (Nat.le_refl _) _).alloc (by simp) _).alloc (by simp; omega) _).drew
    exact HR.out.below (hw.mono hB)
  have HB := Lib.hid hbb
  clear hbb
  obtain ⟨g, hg0, hg1, hg2⟩ : ∃ g : Nat, g = now - xa ∧ (xa ≤ now → (now : Int) - (xa : Int) = (g : Int)) ∧ (now < xa → g = 0) := ⟨now - xa, rfl, fun _ => by omega, fun _ => by omega⟩
  have H0 : Hid (k = 0 → Ch.recv ⟨k, m, s, lo, ⟨xb, xa⟩ :: r⟩ now = (⟨k, m, s, lo, ⟨xb, xa⟩ :: r⟩, xb, g, 0)) := Lib.hid fun hk => by simp [Ch.recv, hk, hg0]
  have H1 : Hid (k ≠ 0 → Ch.recv ⟨k, m, s, lo, ⟨xb, xa⟩ :: r⟩ now = (⟨k, m, s, lo, r⟩, xb, g, 0)) := Lib.hid fun hk => by simp [Ch.recv, hk, hg0]
  clear hg0
  by_cases hk : k = 0
  · have HS := Lib.hid (H0.out hk)
    have HK := Lib.hid hk
    have hk0 : (k : Int) = 0 := by omega
    clear H0 H1 hk
    rcases Nat.lt_or_ge now xa with hn | hn
    · obtain rfl : g = 0 := hg2 hn
      have hnn : ¬ xa ≤ now := by omega
      clear hg1 hg2
      go_enter Try.func22, Try.ntmps22
      go_wp2
      go_region
      all_goals
        go_wp2
        refine bodyPost_ret (v := .tuple #[.agg #[.int .i64 k, .int .i64 m, .int .i64 s, .slice (some ⟨b, o, none⟩) (r.length + 1) c, .int .u64 lo], .string (strB xb), .int .u64 0, .int .i64 0]) (by simp [results, Try.results22, go_sem, hk0]) rfl (retrr HS.out ⟨some ⟨b, o, none⟩, c, rfl, HB.out _ _ _, hc⟩ ?_)
        exact ((((Below.refl _ _).alloc (Nat.le_refl _) _).alloc (by simp) _).alloc (by simp; omega) _).drew
    · have hg := hg1 hn
      have hnn : ¬ now < xa := by omega
      clear hg1 hg2
      go_enter Try.func22, Try.ntmps22
      go_wp2
      go_region
      all_goals
        go_wp2
        refine bodyPost_ret (v := .tuple #[.agg #[.int .i64 k, .int .i64 m, .int .i64 s, .slice (some ⟨b, o, none⟩) (r.length + 1) c, .int .u64 lo], .string (strB xb), .int .u64 g, .int .i64 0]) (by simp [results, Try.results22, go_sem, hk0]) rfl (retrr HS.out ⟨some ⟨b, o, none⟩, c, rfl, HB.out _ _ _, hc⟩ ?_)
        exact ((((Below.refl _ _).alloc (Nat.le_refl _) _).alloc (by simp) _).alloc (by simp; omega) _).drew
  · have HS := Lib.hid (H1.out hk)
    have hk0 : ((k : Int) != 0) = true := by simp; omega
    clear H0 H1
    have HBT : Hid (∀ (o1 o2 o3 : Obj), RQ (((w.alloc o1).alloc o2).alloc o3).drew B (some ⟨b, o + 2, none⟩) r) := Lib.hid fun o1 o2 o3 => (HB.out o1 o2 o3).tail
    rcases Nat.lt_or_ge 1 c with hcap | hcap
    · rcases Nat.lt_or_ge now xa with hn | hn
      · obtain rfl : g = 0 := hg2 hn
        have hnn : ¬ xa ≤ now := by omega
        clear hg1 hg2
        go_enter Try.func22, Try.ntmps22
        go_wp2
        go_region
        all_goals
          go_wp2
          refine bodyPost_ret (v := .tuple #[.agg #[.int .i64 k, .int .i64 m, .int .i64 s, .slice (some ⟨b, o + 2, none⟩) r.length (c - 1), .int .u64 lo], .string (strB xb), .int .u64 0, .int .i64 0]) (by simp [results, Try.results22, go_sem]) rfl (retrr HS.out ⟨some ⟨b, o + 2, none⟩, c - 1, rfl, HBT.out _ _ _, by show r.length ≤ _; omega⟩ ?_)
          exact ((((Below.refl _ _).alloc (Nat.le_refl _) _).alloc (by simp) _).alloc (by simp; omega) _).drew
      · have hg := hg1 hn
        have hnn : ¬ now < xa := by omega
        clear hg1 hg2
        go_enter Try.func22, Try.ntmps22
        go_wp2
        go_region
        all_goals
          go_wp2
          refine bodyPost_ret (v := .tuple #[.agg #[.int .i64 k, .int .i64 m, .int .i64 s, .slice (some ⟨b, o + 2, none⟩) r.length (c - 1), .int .u64 lo], .string (strB xb), .int .u64 g, .int .i64 0]) (by simp [results, Try.results22, go_sem]) rfl (retrr HS.out ⟨some ⟨b, o + 2, none⟩, c - 1, rfl, HBT.out _ _ _, by show r.length ≤ _; omega⟩ ?_)
          exact ((((Below.refl _ _).alloc (Nat.le_refl _) _).alloc (by simp) _).alloc (by simp; omega) _).drew
    · obtain rfl : c = 1 := by omega
      obtain rfl : r = [] := List.eq_nil_of_length_eq_zero (by omega)
      clear HBT
      simp only [List.length_nil, Nat.zero_add]
      rcases Nat.lt_or_ge now xa with hn | hn
      · obtain rfl : g = 0 := hg2 hn
        have hnn : ¬ xa ≤ now := by omega
        clear hg1 hg2
        go_enter Try.func22, Try.ntmps22
        go_wp2
        go_region
        all_goals
          go_wp2
          refine bodyPost_ret (v := .tuple #[.agg #[.int .i64 k, .int .i64 m, .int .i64 s, .slice (some ⟨b, o, none⟩) 0 0, .int .u64 lo], .string (strB xb), .int .u64 0, .int .i64 0]) (by simp [results, Try.results22, go_sem]) rfl (retrr HS.out ⟨some ⟨b, o, none⟩, 0, rfl, RQ.nil _ _ _, Nat.le_refl _⟩ ?_)
          exact ((((Below.refl _ _).alloc (Nat.le_refl _) _).alloc (by simp) _).alloc (by simp; omega) _).drew
      · have hg := hg1 hn
        have hnn : ¬ now < xa := by omega
        clear hg1 hg2
        go_enter Try.func22, Try.ntmps22
        go_wp2
        go_region
        all_goals
          go_wp2
          refine bodyPost_ret (v := .tuple #[.agg #[.int .i64 k, .int .i64 m, .int .i64 s, .slice (some ⟨b, o, none⟩) 0 0, .int .u64 lo], .string (strB xb), .int .u64 g, .int .i64 0]) (by simp [results, Try.results22, go_sem]) rfl (retrr HS.out ⟨some ⟨b, o, none⟩, 0, rfl, RQ.nil _ _ _, Nat.le_refl _⟩ ?_)
          exact ((((Below.refl _ _).alloc (Nat.le_refl _) _).alloc (by simp) _).alloc (by simp; omega) _).drew
theorem refrecv_calls (w : World) (B : Nat) (hB : B ≤ w.heap.size) (C : Ch) (hC : C.ok) (now : Nat) (v : Value) (h : RChB w B C v) (hnow : now ≤ 18446744073709551615) :
    Calls Try.prog 22 #[v, .int .u64 now] w (RetRR w B C now) := by
  cases hq : C.q with
  | nil => exact refrecv_none w B C now v h hq
  | cons x r => exact refrecv_some w B hB C hC now v h x r hq hnow
end Go.Proofs.Ytdjphdkoljfndaa
