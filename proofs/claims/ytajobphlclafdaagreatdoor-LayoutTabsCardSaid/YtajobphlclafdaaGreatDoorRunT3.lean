import Derived.Test.YtajobphlclafdaaGreatDoorRunT0
import Derived.KernelRfl
set_option linter.unusedVariables false
set_option linter.unusedSimpArgs false
/-! LayoutTabs, where its numbers are within their bounds: run (part 3). -/
namespace Go.Abs
noncomputable section
set_option maxRecDepth 100000
theorem t8_0_true : runT 8 0 true = some (.b true) := by kernel_rfl
theorem t8_0_false : runT 8 0 false = some (.b true) := by kernel_rfl
theorem t8_1_true : runT 8 1 true = some (.b true) := by kernel_rfl
theorem t8_1_false : runT 8 1 false = some (.b true) := by kernel_rfl
theorem t8_2_true : runT 8 2 true = some (.b true) := by kernel_rfl
theorem t8_2_false : runT 8 2 false = some (.b true) := by kernel_rfl
theorem t8_3_true : runT 8 3 true = some (.b true) := by kernel_rfl
theorem t8_3_false : runT 8 3 false = some (.b true) := by kernel_rfl
theorem t8_4_true : runT 8 4 true = some (.b true) := by kernel_rfl
theorem t8_4_false : runT 8 4 false = some (.b true) := by kernel_rfl
theorem t8_5_true : runT 8 5 true = some (.b true) := by kernel_rfl
theorem t8_5_false : runT 8 5 false = some (.b true) := by kernel_rfl
theorem t8_6_true : runT 8 6 true = some (.b true) := by kernel_rfl
theorem t8_6_false : runT 8 6 false = some (.b true) := by kernel_rfl
theorem t8_7_true : runT 8 7 true = some (.b true) := by kernel_rfl
theorem t8_7_false : runT 8 7 false = some (.b true) := by kernel_rfl
theorem t8_8_true : runT 8 8 true = some (.b true) := by kernel_rfl
theorem t8_8_false : runT 8 8 false = some (.b true) := by kernel_rfl
theorem t8_9_true : runT 8 9 true = some (.b true) := by kernel_rfl
theorem t8_9_false : runT 8 9 false = some (.b true) := by kernel_rfl
theorem t8_10_true : runT 8 10 true = some (.b true) := by kernel_rfl
theorem t8_10_false : runT 8 10 false = some (.b true) := by kernel_rfl
theorem t8_11_true : runT 8 11 true = some (.b true) := by kernel_rfl
theorem t8_11_false : runT 8 11 false = some (.b true) := by kernel_rfl
theorem t8_12_true : runT 8 12 true = some (.b true) := by kernel_rfl
theorem t8_12_false : runT 8 12 false = some (.b true) := by kernel_rfl
theorem runT_8 (t : Int) (g : Bool) (h0 : 0 ≤ t) (h1 : t ≤ 12) : runT 8 t g = some (.b true) := by
  have ht : t = 0 ∨ t = 1 ∨ t = 2 ∨ t = 3 ∨ t = 4 ∨ t = 5 ∨ t = 6 ∨ t = 7 ∨ t = 8 ∨ t = 9 ∨ t = 10 ∨ t = 11 ∨ t = 12 := by omega
  rcases ht with rfl | rfl | rfl | rfl | rfl | rfl | rfl | rfl | rfl | rfl | rfl | rfl | rfl <;> cases g
  · exact t8_0_false
  · exact t8_0_true
  · exact t8_1_false
  · exact t8_1_true
  · exact t8_2_false
  · exact t8_2_true
  · exact t8_3_false
  · exact t8_3_true
  · exact t8_4_false
  · exact t8_4_true
  · exact t8_5_false
  · exact t8_5_true
  · exact t8_6_false
  · exact t8_6_true
  · exact t8_7_false
  · exact t8_7_true
  · exact t8_8_false
  · exact t8_8_true
  · exact t8_9_false
  · exact t8_9_true
  · exact t8_10_false
  · exact t8_10_true
  · exact t8_11_false
  · exact t8_11_true
  · exact t8_12_false
  · exact t8_12_true
end
end Go.Abs
