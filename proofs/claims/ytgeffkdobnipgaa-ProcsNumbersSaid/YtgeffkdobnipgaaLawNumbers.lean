/- ProcsNumbers: the walk. -/
import Derived.Test.YtgeffkdobnipgaaProcAwake
namespace Go.Proofs.Ytgeffkdobnipgaa
open Go.RowKit Nac Nac.Procs
theorem numbers_calls (w : World) : Calls Try.prog 3 #[] w (RetBb w true) := by
  go_enter Try.func3, Try.ntmps3
  go_wp2_with fail
  refine (awake_calls w).mono ?_
  rintro e w1 ⟨rfl, hb⟩
  have HB := Lib.hid hb
  clear hb
  go_wp2
  go_ret
  exact ⟨rfl, HB.out⟩
end Go.Proofs.Ytgeffkdobnipgaa
