import Derived.Test.YtajobphlclafdaaGreatDoorRunT0
import Derived.KernelRfl
set_option linter.unusedVariables false
set_option linter.unusedSimpArgs false
/-! LayoutTabs, where its numbers are within their bounds: run (part 1). -/
namespace Go.Abs
noncomputable section
set_option maxRecDepth 100000
theorem t4_0_true : runT 4 0 true = some (.b true) := by kernel_rfl
theorem t4_0_false : runT 4 0 false = some (.b true) := by kernel_rfl
theorem t4_1_true : runT 4 1 true = some (.b true) := by kernel_rfl
theorem t4_1_false : runT 4 1 false = some (.b true) := by kernel_rfl
theorem t4_2_true : runT 4 2 true = some (.b true) := by kernel_rfl
theorem t4_2_false : runT 4 2 false = some (.b true) := by kernel_rfl
theorem t4_3_true : runT 4 3 true = some (.b true) := by kernel_rfl
theorem t4_3_false : runT 4 3 false = some (.b true) := by kernel_rfl
theorem t4_4_true : runT 4 4 true = some (.b true) := by kernel_rfl
theorem t4_4_false : runT 4 4 false = some (.b true) := by kernel_rfl
theorem t4_5_true : runT 4 5 true = some (.b true) := by kernel_rfl
theorem t4_5_false : runT 4 5 false = some (.b true) := by kernel_rfl
theorem t4_6_true : runT 4 6 true = some (.b true) := by kernel_rfl
theorem t4_6_false : runT 4 6 false = some (.b true) := by kernel_rfl
theorem t4_7_true : runT 4 7 true = some (.b true) := by kernel_rfl
theorem t4_7_false : runT 4 7 false = some (.b true) := by kernel_rfl
theorem t4_8_true : runT 4 8 true = some (.b true) := by kernel_rfl
theorem t4_8_false : runT 4 8 false = some (.b true) := by kernel_rfl
theorem t4_9_true : runT 4 9 true = some (.b true) := by kernel_rfl
theorem t4_9_false : runT 4 9 false = some (.b true) := by kernel_rfl
theorem t4_10_true : runT 4 10 true = some (.b true) := by kernel_rfl
theorem t4_10_false : runT 4 10 false = some (.b true) := by kernel_rfl
theorem t4_11_true : runT 4 11 true = some (.b true) := by kernel_rfl
theorem t4_11_false : runT 4 11 false = some (.b true) := by kernel_rfl
theorem t4_12_true : runT 4 12 true = some (.b true) := by kernel_rfl
theorem t4_12_false : runT 4 12 false = some (.b true) := by kernel_rfl
theorem runT_4 (t : Int) (g : Bool) (h0 : 0 ≤ t) (h1 : t ≤ 12) : runT 4 t g = some (.b true) := by
  have ht : t = 0 ∨ t = 1 ∨ t = 2 ∨ t = 3 ∨ t = 4 ∨ t = 5 ∨ t = 6 ∨ t = 7 ∨ t = 8 ∨ t = 9 ∨ t = 10 ∨ t = 11 ∨ t = 12 := by omega
  rcases ht with rfl | rfl | rfl | rfl | rfl | rfl | rfl | rfl | rfl | rfl | rfl | rfl | rfl <;> cases g
  · exact t4_0_false
  · exact t4_0_true
  · exact t4_1_false
  · exact t4_1_true
  · exact t4_2_false
  · exact t4_2_true
  · exact t4_3_false
  · exact t4_3_true
  · exact t4_4_false
  · exact t4_4_true
  · exact t4_5_false
  · exact t4_5_true
  · exact t4_6_false
  · exact t4_6_true
  · exact t4_7_false
  · exact t4_7_true
  · exact t4_8_false
  · exact t4_8_true
  · exact t4_9_false
  · exact t4_9_true
  · exact t4_10_false
  · exact t4_10_true
  · exact t4_11_false
  · exact t4_11_true
  · exact t4_12_false
  · exact t4_12_true
theorem t5_0_true : runT 5 0 true = some (.b true) := by kernel_rfl
theorem t5_0_false : runT 5 0 false = some (.b true) := by kernel_rfl
theorem t5_1_true : runT 5 1 true = some (.b true) := by kernel_rfl
theorem t5_1_false : runT 5 1 false = some (.b true) := by kernel_rfl
theorem t5_2_true : runT 5 2 true = some (.b true) := by kernel_rfl
theorem t5_2_false : runT 5 2 false = some (.b true) := by kernel_rfl
theorem t5_3_true : runT 5 3 true = some (.b true) := by kernel_rfl
theorem t5_3_false : runT 5 3 false = some (.b true) := by kernel_rfl
theorem t5_4_true : runT 5 4 true = some (.b true) := by kernel_rfl
theorem t5_4_false : runT 5 4 false = some (.b true) := by kernel_rfl
theorem t5_5_true : runT 5 5 true = some (.b true) := by kernel_rfl
theorem t5_5_false : runT 5 5 false = some (.b true) := by kernel_rfl
theorem t5_6_true : runT 5 6 true = some (.b true) := by kernel_rfl
theorem t5_6_false : runT 5 6 false = some (.b true) := by kernel_rfl
theorem t5_7_true : runT 5 7 true = some (.b true) := by kernel_rfl
theorem t5_7_false : runT 5 7 false = some (.b true) := by kernel_rfl
theorem t5_8_true : runT 5 8 true = some (.b true) := by kernel_rfl
theorem t5_8_false : runT 5 8 false = some (.b true) := by kernel_rfl
theorem t5_9_true : runT 5 9 true = some (.b true) := by kernel_rfl
theorem t5_9_false : runT 5 9 false = some (.b true) := by kernel_rfl
theorem t5_10_true : runT 5 10 true = some (.b true) := by kernel_rfl
theorem t5_10_false : runT 5 10 false = some (.b true) := by kernel_rfl
theorem t5_11_true : runT 5 11 true = some (.b true) := by kernel_rfl
theorem t5_11_false : runT 5 11 false = some (.b true) := by kernel_rfl
theorem t5_12_true : runT 5 12 true = some (.b true) := by kernel_rfl
theorem t5_12_false : runT 5 12 false = some (.b true) := by kernel_rfl
theorem runT_5 (t : Int) (g : Bool) (h0 : 0 ≤ t) (h1 : t ≤ 12) : runT 5 t g = some (.b true) := by
  have ht : t = 0 ∨ t = 1 ∨ t = 2 ∨ t = 3 ∨ t = 4 ∨ t = 5 ∨ t = 6 ∨ t = 7 ∨ t = 8 ∨ t = 9 ∨ t = 10 ∨ t = 11 ∨ t = 12 := by omega
  rcases ht with rfl | rfl | rfl | rfl | rfl | rfl | rfl | rfl | rfl | rfl | rfl | rfl | rfl <;> cases g
  · exact t5_0_false
  · exact t5_0_true
  · exact t5_1_false
  · exact t5_1_true
  · exact t5_2_false
  · exact t5_2_true
  · exact t5_3_false
  · exact t5_3_true
  · exact t5_4_false
  · exact t5_4_true
  · exact t5_5_false
  · exact t5_5_true
  · exact t5_6_false
  · exact t5_6_true
  · exact t5_7_false
  · exact t5_7_true
  · exact t5_8_false
  · exact t5_8_true
  · exact t5_9_false
  · exact t5_9_true
  · exact t5_10_false
  · exact t5_10_true
  · exact t5_11_false
  · exact t5_11_true
  · exact t5_12_false
  · exact t5_12_true
end
end Go.Abs
