/- The law CrcPieces, walked. -/
import Derived.Test.YtoeebfkdipkgkaaDoorCrcAwake
import Derived.Test.YtoeebfkdipkgkaaDoorSliceB
import Derived.Test.YtoeebfkdipkgkaaDoorNums
namespace Go.Proofs.YtoeebfkdipkgkaaDoor
open Go.RowKit Nac Nac.Crc
theorem pieces_step (l : List UInt8) (m n : Nat) : on (of (l.take m)) ((l.take (m + n)).drop m) = of (l.take (m + n)) := by
  unfold of
  rw [← on_append]
  congr 1
  have e : (l.take (m + n)).take m = l.take m := by rw [List.take_take, Nat.min_eq_left (by omega)]
  rw [← e, List.take_append_drop]
theorem pieces_end (l : List UInt8) (m : Nat) : on (of (l.take m)) (l.drop m) = of l := by
  unfold of
  rw [← on_append, List.take_append_drop]
set_option maxHeartbeats 4000000 in
theorem pieces_calls (w : World) (A : Option Addr) (c : Nat) (l : List UInt8) (A2 : Option Addr) (c2 : Nat) (q : List Int) (ht : Nib w) (hg : 0 < w.heap.size) (h : RB w w.heap.size A l) (hlc : l.length ≤ c) (h8 : l.length ≤ 140737488351232)
    (hq : RN w w.heap.size A2 q) (hq8 : q.length ≤ 140737488351232) (hqz : ∀ z ∈ q, -9223372036854775808 ≤ z ∧ z ≤ 9223372036854775807) :
    Calls Tryd.prog 5 #[.slice A l.length c, .slice A2 q.length c2] w fun e w' => e = .returned (.bool true) ∧ Below w.heap.size w w' := by
  go_enter Tryd.func5, Tryd.ntmps5
  go_wp2_with fail
  refine (of_calls_n w w.heap.size none 0 0 [] rfl ht (RB.nil _ _ _) (by decide)).mono ?_
  rintro e w' ⟨rfl, rfl⟩
  go_wp2_with fail
  go_loop [5, 6, 7] (fun s d i => ∃ k m : Nat, ∃ r : W32, k ≤ 20 ∧ k ≤ q.length ∧ m ≤ l.length ∧ i = .int .i64 k ∧ d = .int .i64 m ∧ s = .int .u32 (r.toNat : Int) ∧ r = of (l.take m)) (fun _ _ i => 20 - (intOf i).toNat)
  case atStart => exact ⟨0, 0, of [], by omega, by omega, by omega, rfl, rfl, rfl, rfl⟩
  case round =>
    obtain ⟨k, m, r, hk, hkq, hm, rfl, rfl, rfl, hr⟩ := hrel
    have HR := Lib.hid hr; clear hr
    by_cases hgo : k < 20 ∧ k < q.length
    · obtain ⟨hk20, hkl⟩ := hgo
      obtain ⟨b2, o2, rfl, _, hc⟩ := hq.get hkl
      obtain ⟨hz1, hz2⟩ := hqz q[k] (List.getElem_mem hkl)
      obtain ⟨z, hz⟩ : ∃ z, z = q[k] := ⟨_, rfl⟩
      rw [← hz] at hc hz1 hz2
      clear hz
      by_cases hz0 : z < 0
      · go_wp2
        go_round
        case rel => exact ⟨k + 1, m, r, by omega, by omega, hm, by go_num, rfl, rfl, HR.out⟩
        case measure => simp [intOf]; omega
      · by_cases hz3 : z ≤ (l.length : Int) - m
        · obtain ⟨n, rfl⟩ : ∃ n : Nat, z = n := ⟨z.toNat, by omega⟩
          clear hz0
          have hmn : m + n ≤ l.length := by omega
          go_wp2_with ((with_reducible show wpList _ _ _ (Oper.mk _ (Op.slice _ _ _ _ _) _ _ _ _ :: _) _ _); (refine wpList_cut _ (Or.inl rfl) _ _ _ rfl w.heap.size A l.length c l rfl rfl h hlc m (m + n) (Or.inr rfl) (Or.inr (by go_num)) (by omega) hmn ?_))
          intro A' m' L HL Hm _ hrb
          have hL8 : L.length ≤ 140737488351232 := by rw [HL.out]; simp; omega
          go_wp2_with fail
          refine (on_calls_n w w.heap.size A' _ _ L r rfl ht hrb hL8).mono ?_
          rintro e w' ⟨rfl, rfl⟩
          obtain ⟨r2, HR2⟩ : ∃ r2, Hid (r2 = on r L) := ⟨_, rfl⟩
          rw [← HR2.out]
          go_wp2
          go_round
          case rel => exact ⟨k + 1, m + n, r2, by omega, by omega, hmn, by go_num, by go_num, rfl, by rw [HR2.out, HR.out, HL.out]; exact pieces_step l m n⟩
          case measure => simp [intOf]; omega
        · go_wp2
          go_round
          case rel => exact ⟨k + 1, m, r, by omega, by omega, hm, by go_num, rfl, rfl, HR.out⟩
          case measure => simp [intOf]; omega
    · obtain hgo | hgo : q.length ≤ k ∨ 20 ≤ k := by omega
      all_goals
        go_wp2_with fail
      all_goals
        refine (awake_calls w ht hg).mono ?_
        rintro e w3 ⟨rfl, hb3⟩
        have h3 := h.below hb3
        have ht3 := ht.below hg hb3
        go_wp2_with ((with_reducible show wpList _ _ _ (Oper.mk _ (Op.slice _ _ _ _ _) _ _ _ _ :: _) _ _); (refine wpList_cut _ (Or.inr rfl) _ _ _ rfl w.heap.size A l.length c l rfl rfl h3 hlc m l.length (Or.inr rfl) (Or.inl ⟨rfl, rfl⟩) hm (Nat.le_refl _) ?_))
        intro A' m' L HL Hm _ hrb
        have hL8 : L.length ≤ 140737488351232 := by rw [HL.out]; simp; omega
        go_wp2_with fail
        refine (on_calls_n w3 w.heap.size A' _ _ L r rfl ht3 hrb hL8).mono ?_
        rintro e w' ⟨rfl, rfl⟩
        have hR2 : on r L = of l := by rw [HR.out, HL.out]; exact pieces_end l m
        rw [hR2]
        clear hR2
        go_wp2_with fail
        refine (of_calls w3 w.heap.size A c l ht3 h3 h8).mono ?_
        rintro e w' ⟨rfl, rfl⟩
        go_wp2
        go_ret
        exact ⟨rfl, hb3⟩
end Go.Proofs.YtoeebfkdipkgkaaDoor
