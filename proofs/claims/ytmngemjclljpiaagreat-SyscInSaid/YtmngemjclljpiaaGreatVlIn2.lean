/- SyscIn: ahead of its loop, and behind it. -/
import Derived.Test.YtmngemjclljpiaaGreatVlIn
import Derived.Test.YtmngemjclljpiaaGreatVtLay2
import Derived.Test.YtmngemjclljpiaaGreatVxR
namespace Go.Vx
open Go.Proofs

abbrev awakeF : Nat := 7
theorem awake_run (ex : XTab) : ∃ g, VCalls Tryz.prog ex awakeF [] [] (B true) ([] ++ g) := by
  exact contractK ((goodT (TabOK.cons (rNewOK ex) (TabOK.cons (configCOK ex) TabOK.nil)))) 40 0 [] _ _ _ _ (by kernel_rfl)
end Go.Vx
