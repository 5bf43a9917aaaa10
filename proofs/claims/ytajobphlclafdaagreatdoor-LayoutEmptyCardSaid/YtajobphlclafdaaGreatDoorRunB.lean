import Derived.Test.YtajobphlclafdaaGreatDoorXTab
import Derived.Test.YtajobphlclafdaaGreatDoorEngZh
import Derived.KernelRfl
set_option linter.unusedVariables false
set_option linter.unusedSimpArgs false
namespace Go.Abs
noncomputable section
set_option maxRecDepth 100000
def N1 : Nums := { check := 43, str := 21, index := 146, count := 112, T := [(46, 2, 0), (47, 2, 0), (48, 9, 2), (49, 9, 2)], U := 5 }
def hx01 : Hp := N16.all (N16.all (N16.all (N16.all .no)))
theorem begun_run : xcall xtab (extX N1) 5000 200 6 .nil ⟨.d3, .d0, .d0, .d0⟩ hx01 (fun v _ _ => some v) = some (.b true) := by kernel_rfl
end
end Go.Abs
