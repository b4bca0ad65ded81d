/- The window that holds a place: the search, and at. -/
import Derived.Test.YthdipdbmikkplaaDoorTab
import Derived.IntWalk
namespace Go.Proofs.YthdipdbmikkplaaDoor
open Go.RowKit Nac Nac.Table
theorem at1_calls (w : World) (bt bp : Nat) (T k : Int) (A : Option Addr) (c : Nat) (ws : List Win) (B : Nat) (hA : RW w B A ws) (ht : Box w bt [.int .i64 T, .slice A ws.length c]) (hp : Box w bp [.int .i64 k]) (i : Nat) (hi : i < ws.length) (h8 : ws.length ≤ 140737488351232) :
    Calls Tryd.prog 22 #[.int .i64 i, .pointer (some ⟨bt, 0, none⟩), .pointer (some ⟨bp, 0, none⟩)] w fun e w' => e = .returned (.bool (decide (k < ws[i].start))) ∧ ∃ n, w.drewN n = w' := by
  obtain ⟨b, o, rfl, hb, c0, c1, c2, hw⟩ := hA.get hi
  obtain ⟨x, hx⟩ : ∃ x, x = ws[i] := ⟨_, rfl⟩
  rw [← hx] at c0 c1 c2 hw ⊢
  clear hx
  have m0 : w.cell? ⟨bt, 0, none⟩ = some (.int .i64 T) := ht.cell rfl
  have m1 : w.cell? ⟨bt, 1, none⟩ = some (.slice (some ⟨b, o, none⟩) ws.length c) := ht.cell rfl
  have m2 : w.cell? ⟨bp, 0, none⟩ = some (.int .i64 k) := hp.cell rfl
  go_enter Tryd.func22, Tryd.ntmps22
  go_wp2_with fail
  go_quiet (fail)
  go_wp2
  go_ret
  exact ⟨rfl, _, rfl⟩
theorem search_calls (w : World) (bt bp : Nat) (T k : Int) (A : Option Addr) (c : Nat) (ws : List Win) (B : Nat) (hA : RW w B A ws) (ht : Box w bt [.int .i64 T, .slice A ws.length c]) (hp : Box w bp [.int .i64 k]) (h8 : ws.length ≤ 140737488351232) (hsort : ∀ a b (hb : b < ws.length) (hab : a < b), ws[a].start ≤ ws[b].start) :
    Calls Tryd.prog 21 #[.int .i64 ws.length, .func (.func 22) #[] #[.pointer (some ⟨bt, 0, none⟩), .pointer (some ⟨bp, 0, none⟩)]] w fun e w' => (∃ r : Nat, e = .returned (.int .i64 r) ∧ r ≤ ws.length ∧ (∀ i (h : i < ws.length), i < r → ws[i].start ≤ k) ∧ (∀ i (h : i < ws.length), r ≤ i → k < ws[i].start)) ∧ ∃ n, w.drewN n = w' := by
  go_enter Tryd.func21, Tryd.ntmps21
  go_wp2_with fail
  go_loopw [5, 6] (fun s5 s6 wr => ∃ i j : Nat, i ≤ j ∧ j ≤ ws.length ∧ s5 = .int .i64 i ∧ s6 = .int .i64 j ∧ Hid ((∀ x (h : x < ws.length), x < i → ws[x].start ≤ k) ∧ (∀ x (h : x < ws.length), j ≤ x → k < ws[x].start)) ∧ Hid (∃ n, w.drewN n = wr)) (fun s5 s6 _ => (intOf s6).toNat - (intOf s5).toNat)
  case atStart => exact ⟨0, ws.length, by omega, by omega, rfl, rfl, ⟨fun x h1 h2 => absurd h2 (Nat.not_lt_zero _), fun x h1 h2 => absurd h1 (by omega)⟩, 0, rfl⟩
  case round =>
    obtain ⟨i, j, hij, hj, rfl, rfl, H1, H2⟩ := hrel
    obtain ⟨n, hn⟩ := H2.out
    subst hn
    by_cases hlt : i < j
    · obtain ⟨h, hh⟩ : ∃ h : Nat, ((i : Int) + (j : Int)) / 2 = (h : Int) := ⟨(i + j) / 2, by omega⟩
      have hi1 : i ≤ h := by omega
      have hj1 : h < j := by omega
      have hhl : h < ws.length := by omega
      go_wp2_with fail
      refine (at1_calls (w.drewN n) bt bp T k A c ws B hA ht hp h hhl h8).mono ?_
      rintro e w' ⟨rfl, m, rfl⟩
      have H3 : Hid (∃ m', w.drewN m' = w.drewN (n + m)) := ⟨_, rfl⟩
      by_cases hs : k < ws[h].start
      · have H4 : Hid ((∀ x (hx : x < ws.length), x < i → ws[x].start ≤ k) ∧ (∀ x (hx : x < ws.length), h ≤ x → k < ws[x].start)) := by
          refine ⟨H1.out.1, fun x hx hxh => ?_⟩
          by_cases e : x = h
          · subst e; exact hs
          · have := hsort h x hx (by omega); omega
        have hd : decide (k < ws[h].start) = true := decide_eq_true hs
        rw [hd]
        clear hh H1 H2 hs hd
        go_wp2
        go_roundw
        case rel => exact ⟨i, h, hi1, by omega, rfl, rfl, H4, H3⟩
        case measure => simp [intOf]; omega
      · have hd : decide (k < ws[h].start) = false := decide_eq_false hs
        rw [hd]
        have H4 : Hid ((∀ x (hx : x < ws.length), x < h + 1 → ws[x].start ≤ k) ∧ (∀ x (hx : x < ws.length), j ≤ x → k < ws[x].start)) := by
          refine ⟨fun x hx hxh => ?_, H1.out.2⟩
          by_cases e : x = h
          · subst e; omega
          · have := hsort x h hhl (by omega); omega
        clear hh H1 H2 hs hd
        go_wp2
        go_roundw
        case rel => exact ⟨h + 1, j, by omega, by omega, by go_num, rfl, H4, H3⟩
        case measure => simp [intOf]; omega
    · go_wp2
      go_ret
      exact ⟨⟨i, rfl, by omega, H1.out.1, fun x h1 h2 => H1.out.2 x h1 (by omega)⟩, n, rfl⟩
theorem fit_sorted {T : Int} {ws : List Win} (hf : Fit T 0 ws) (a b : Nat) (hb : b < ws.length) (hab : a < b) : ws[a].start ≤ ws[b].start := by
  have := fit_lt hf a b hb hab
  have := (fit_get hf a (by omega)).2.2.1
  omega
theorem at_calls (w : World) (T k : Int) (hT : I64 T) (hk : I64 k) (A : Option Addr) (c : Nat) (ws : List Win) (hA : RW w w.heap.size A ws) (h8 : ws.length ≤ 140737488351232) (hf : Fit T 0 ws) (h256 : T ≤ 256) :
    Calls Tryd.prog 17 #[.agg #[.int .i64 T, .slice A ws.length c], .int .i64 k] w fun e w' => e = .returned (.int .i64 (place ws k)) ∧ Below w.heap.size w w' := by
  go_enter Tryd.func17, Tryd.ntmps17
  go_wp2_with fail
  obtain ⟨w1, hw1⟩ : ∃ w1, w1 = (w.alloc (.cells #[.int .i64 T, .slice A ws.length c] 24)).alloc (.cells #[.int .i64 k] 3) := ⟨_, rfl⟩
  have hb1 : Below w.heap.size w w1 := by rw [hw1]; exact ((Below.refl _ _).alloc (Nat.le_refl _) _).alloc (by simp) _
  have hbt : Box w1 w.heap.size [.int .i64 T, .slice A ws.length c] := by
    rw [hw1]
    exact (Box.new w _ _).below ((Below.refl (w.heap.size + 1) _).alloc (by simp) _) (by omega)
  have hbp : Box w1 (w.heap.size + 1) [.int .i64 k] := by
    have := Box.new (w.alloc (.cells #[.int .i64 T, .slice A ws.length c] 24)) [.int .i64 k] 3
    rw [hw1]
    simpa using this
  rw [← hw1]
  clear hw1
  refine (search_calls w1 w.heap.size (w.heap.size + 1) T k A c ws w.heap.size (hA.below hb1) hbt hbp h8 (fun a b hb hab => fit_sorted hf a b hb hab)).mono ?_
  rintro e w2 ⟨⟨r, rfl, hr, hr1, hr2⟩, n, rfl⟩
  obtain ⟨hp0, hp1⟩ := place_search hf k r hr hr1 hr2
  have HB := Lib.hid hb1; clear hb1
  have m0 : w1.cell? ⟨w.heap.size, 1, none⟩ = some (.slice A ws.length c) := hbt.cell rfl
  have m1 : w1.cell? ⟨w.heap.size + 1, 0, none⟩ = some (.int .i64 k) := hbp.cell rfl
  cases r with
  | zero =>
    have HP := Lib.hid (hp0 rfl)
    clear hp0 hp1 hr1 hr2 hbt hbp
    go_wp2_with fail
    go_quiet (fail)
    go_wp2
    go_ret
    rw [HP.out]
    exact ⟨rfl, below_drewN (below_drewN HB.out _) _⟩
  | succ j =>
    have hj : j < ws.length := by omega
    have hpj := hp1 j hj rfl
    have hfg := fit_get hf j hj
    obtain ⟨b, o, rfl, hb, c0, c1, c2, hw⟩ := (hA.below HB.out).get hj
    obtain ⟨⟨p, s, t⟩, hx⟩ : ∃ x, x = ws[j] := ⟨_, rfl⟩
    rw [← hx] at c0 c1 c2 hpj hfg
    clear hx hw
    simp only at c0 c1 c2 hpj hfg
    obtain ⟨g1, g2, g3, g4, g5, g6⟩ := hfg
    have HP := Lib.hid hpj
    clear hp0 hp1 hr1 hr2 hbt hbp hpj g1 g2
    have hk1 := hk.lo
    have hk2 := hk.hi
    have hwr : IntKind.i64.wrap (s + t) = s + t := IntWalk.i64_in _ (by omega)
    have hj0 : decide ((j : Int) < 0) = false := decide_eq_false (by omega)
    by_cases hs : k < s + t
    · have hd : decide (s + t ≤ k) = false := decide_eq_false (by omega)
      go_wp2_with fail
      go_quiet (fail)
      go_wp2
      go_ret
      rw [HP.out, if_pos hs]
      exact ⟨rfl, below_drewN (below_drewN HB.out _) _⟩
    · have hd : decide (s + t ≤ k) = true := decide_eq_true (by omega)
      go_wp2_with fail
      go_quiet (fail)
      go_wp2
      go_ret
      rw [HP.out, if_neg (by omega)]
      exact ⟨rfl, below_drewN (below_drewN HB.out _) _⟩
end Go.Proofs.YthdipdbmikkplaaDoor
