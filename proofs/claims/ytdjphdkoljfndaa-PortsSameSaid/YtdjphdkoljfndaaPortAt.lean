/- The channel's small functions: at, Kind, Waiting, Lost. -/
import Derived.Test.YtdjphdkoljfndaaProg
import Derived.Test.YtdjphdkoljfndaaChan
import Derived.Lib.Hide
import Derived.RegionTactic
import Derived.ChangeAlike
namespace Go.Proofs.Ytdjphdkoljfndaa
open Go.RowKit Nac
theorem at_calls (w : World) (b f i : Nat) (hf : f < 16) (hi : i ≤ 16) (hc : w.cell? ⟨b, 3, none⟩ = some (.int .i64 f)) :
    Calls Try.prog 19 #[.pointer (some ⟨b, 0, none⟩), .int .i64 i] w fun e w' => e = .returned (.pointer (some ⟨b, 6 + 66 * ((f + i) % 16), none⟩)) ∧ w.drew = w' := by
  go_enter Try.func19, Try.ntmps19
  go_wp2
  go_region
  all_goals
    go_wp2
    go_ret
    refine ⟨?_, rfl⟩
    rw [Nat.mul_comm 66]
    rfl
theorem kind_calls (w : World) (b : Nat) (v : Value) (hc : w.cell? ⟨b, 0, none⟩ = some v) :
    Calls Try.prog 11 #[.pointer (some ⟨b, 0, none⟩)] w fun e w' => e = .returned v ∧ w = w' := by
  go_enter Try.func11, Try.ntmps11
  go_wp2
  go_ret
  exact ⟨rfl, rfl⟩
theorem waiting_calls (w : World) (b : Nat) (v : Value) (hc : w.cell? ⟨b, 4, none⟩ = some v) :
    Calls Try.prog 12 #[.pointer (some ⟨b, 0, none⟩)] w fun e w' => e = .returned v ∧ w = w' := by
  go_enter Try.func12, Try.ntmps12
  go_wp2
  go_ret
  exact ⟨rfl, rfl⟩
theorem lost_calls (w : World) (b : Nat) (v : Value) (hc : w.cell? ⟨b, 5, none⟩ = some v) :
    Calls Try.prog 18 #[.pointer (some ⟨b, 0, none⟩)] w fun e w' => e = .returned v ∧ w = w' := by
  go_enter Try.func18, Try.ntmps18
  go_wp2
  go_ret
  exact ⟨rfl, rfl⟩
end Go.Proofs.Ytdjphdkoljfndaa
