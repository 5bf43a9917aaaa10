import Derived.Test.YtajobphlclafdaaGreatDoorRunT0
import Derived.KernelRfl
set_option linter.unusedVariables false
set_option linter.unusedSimpArgs false
/-! The first check of every statement of this layer: run. -/
namespace Go.Abs
noncomputable section
set_option maxRecDepth 100000
theorem begun_run : ycall ytab (extX N1) 5000 200 6 .nil ⟨.d3, .d0, .d0, .d0⟩ hx01 (fun v _ _ => some v) = some (.b true) := by kernel_rfl
end
end Go.Abs
