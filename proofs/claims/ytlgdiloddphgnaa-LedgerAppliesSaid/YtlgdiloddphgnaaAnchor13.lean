/- The anchor of law 13 answers true. -/
import Derived.Test.YtlgdiloddphgnaaAM13
set_option maxRecDepth 100000
namespace Go.Proofs.Ytlgdiloddphgnaa
open Go.RowKit
theorem anchor13_run : ((AM.run 1000 7 [] AM.St.nil).map (·.1)) = some (.bool true) := by kernel_rfl
theorem anchor13_any (w : World) : Calls Try.prog 7 #[] w fun e w' => e = .returned (.bool true) ∧ Below w.heap.size w w' := by
  obtain ⟨⟨x, s'⟩, h, hx⟩ := Option.map_eq_some_iff.1 anchor13_run
  have e : x = .bool true := hx
  subst e
  exact AM.closed_bool (AM.run_ok 1000) h w
end Go.Proofs.Ytlgdiloddphgnaa
