import Derived.Test.YtajobphlclafdaaGreatDoorRunT0
import Derived.KernelRfl
set_option linter.unusedVariables false
set_option linter.unusedSimpArgs false
/-! LayoutTabs, where its numbers are within their bounds: run (part 2). -/
namespace Go.Abs
noncomputable section
set_option maxRecDepth 100000
theorem t6_0_true : runT 6 0 true = some (.b true) := by kernel_rfl
theorem t6_0_false : runT 6 0 false = some (.b true) := by kernel_rfl
theorem t6_1_true : runT 6 1 true = some (.b true) := by kernel_rfl
theorem t6_1_false : runT 6 1 false = some (.b true) := by kernel_rfl
theorem t6_2_true : runT 6 2 true = some (.b true) := by kernel_rfl
theorem t6_2_false : runT 6 2 false = some (.b true) := by kernel_rfl
theorem t6_3_true : runT 6 3 true = some (.b true) := by kernel_rfl
theorem t6_3_false : runT 6 3 false = some (.b true) := by kernel_rfl
theorem t6_4_true : runT 6 4 true = some (.b true) := by kernel_rfl
theorem t6_4_false : runT 6 4 false = some (.b true) := by kernel_rfl
theorem t6_5_true : runT 6 5 true = some (.b true) := by kernel_rfl
theorem t6_5_false : runT 6 5 false = some (.b true) := by kernel_rfl
theorem t6_6_true : runT 6 6 true = some (.b true) := by kernel_rfl
theorem t6_6_false : runT 6 6 false = some (.b true) := by kernel_rfl
theorem t6_7_true : runT 6 7 true = some (.b true) := by kernel_rfl
theorem t6_7_false : runT 6 7 false = some (.b true) := by kernel_rfl
theorem t6_8_true : runT 6 8 true = some (.b true) := by kernel_rfl
theorem t6_8_false : runT 6 8 false = some (.b true) := by kernel_rfl
theorem t6_9_true : runT 6 9 true = some (.b true) := by kernel_rfl
theorem t6_9_false : runT 6 9 false = some (.b true) := by kernel_rfl
theorem t6_10_true : runT 6 10 true = some (.b true) := by kernel_rfl
theorem t6_10_false : runT 6 10 false = some (.b true) := by kernel_rfl
theorem t6_11_true : runT 6 11 true = some (.b true) := by kernel_rfl
theorem t6_11_false : runT 6 11 false = some (.b true) := by kernel_rfl
theorem t6_12_true : runT 6 12 true = some (.b true) := by kernel_rfl
theorem t6_12_false : runT 6 12 false = some (.b true) := by kernel_rfl
theorem runT_6 (t : Int) (g : Bool) (h0 : 0 ≤ t) (h1 : t ≤ 12) : runT 6 t g = some (.b true) := by
  have ht : t = 0 ∨ t = 1 ∨ t = 2 ∨ t = 3 ∨ t = 4 ∨ t = 5 ∨ t = 6 ∨ t = 7 ∨ t = 8 ∨ t = 9 ∨ t = 10 ∨ t = 11 ∨ t = 12 := by omega
  rcases ht with rfl | rfl | rfl | rfl | rfl | rfl | rfl | rfl | rfl | rfl | rfl | rfl | rfl <;> cases g
  · exact t6_0_false
  · exact t6_0_true
  · exact t6_1_false
  · exact t6_1_true
  · exact t6_2_false
  · exact t6_2_true
  · exact t6_3_false
  · exact t6_3_true
  · exact t6_4_false
  · exact t6_4_true
  · exact t6_5_false
  · exact t6_5_true
  · exact t6_6_false
  · exact t6_6_true
  · exact t6_7_false
  · exact t6_7_true
  · exact t6_8_false
  · exact t6_8_true
  · exact t6_9_false
  · exact t6_9_true
  · exact t6_10_false
  · exact t6_10_true
  · exact t6_11_false
  · exact t6_11_true
  · exact t6_12_false
  · exact t6_12_true
theorem t7_0_true : runT 7 0 true = some (.b true) := by kernel_rfl
theorem t7_0_false : runT 7 0 false = some (.b true) := by kernel_rfl
theorem t7_1_true : runT 7 1 true = some (.b true) := by kernel_rfl
theorem t7_1_false : runT 7 1 false = some (.b true) := by kernel_rfl
theorem t7_2_true : runT 7 2 true = some (.b true) := by kernel_rfl
theorem t7_2_false : runT 7 2 false = some (.b true) := by kernel_rfl
theorem t7_3_true : runT 7 3 true = some (.b true) := by kernel_rfl
theorem t7_3_false : runT 7 3 false = some (.b true) := by kernel_rfl
theorem t7_4_true : runT 7 4 true = some (.b true) := by kernel_rfl
theorem t7_4_false : runT 7 4 false = some (.b true) := by kernel_rfl
theorem t7_5_true : runT 7 5 true = some (.b true) := by kernel_rfl
theorem t7_5_false : runT 7 5 false = some (.b true) := by kernel_rfl
theorem t7_6_true : runT 7 6 true = some (.b true) := by kernel_rfl
theorem t7_6_false : runT 7 6 false = some (.b true) := by kernel_rfl
theorem t7_7_true : runT 7 7 true = some (.b true) := by kernel_rfl
theorem t7_7_false : runT 7 7 false = some (.b true) := by kernel_rfl
theorem t7_8_true : runT 7 8 true = some (.b true) := by kernel_rfl
theorem t7_8_false : runT 7 8 false = some (.b true) := by kernel_rfl
theorem t7_9_true : runT 7 9 true = some (.b true) := by kernel_rfl
theorem t7_9_false : runT 7 9 false = some (.b true) := by kernel_rfl
theorem t7_10_true : runT 7 10 true = some (.b true) := by kernel_rfl
theorem t7_10_false : runT 7 10 false = some (.b true) := by kernel_rfl
theorem t7_11_true : runT 7 11 true = some (.b true) := by kernel_rfl
theorem t7_11_false : runT 7 11 false = some (.b true) := by kernel_rfl
theorem t7_12_true : runT 7 12 true = some (.b true) := by kernel_rfl
theorem t7_12_false : runT 7 12 false = some (.b true) := by kernel_rfl
theorem runT_7 (t : Int) (g : Bool) (h0 : 0 ≤ t) (h1 : t ≤ 12) : runT 7 t g = some (.b true) := by
  have ht : t = 0 ∨ t = 1 ∨ t = 2 ∨ t = 3 ∨ t = 4 ∨ t = 5 ∨ t = 6 ∨ t = 7 ∨ t = 8 ∨ t = 9 ∨ t = 10 ∨ t = 11 ∨ t = 12 := by omega
  rcases ht with rfl | rfl | rfl | rfl | rfl | rfl | rfl | rfl | rfl | rfl | rfl | rfl | rfl <;> cases g
  · exact t7_0_false
  · exact t7_0_true
  · exact t7_1_false
  · exact t7_1_true
  · exact t7_2_false
  · exact t7_2_true
  · exact t7_3_false
  · exact t7_3_true
  · exact t7_4_false
  · exact t7_4_true
  · exact t7_5_false
  · exact t7_5_true
  · exact t7_6_false
  · exact t7_6_true
  · exact t7_7_false
  · exact t7_7_true
  · exact t7_8_false
  · exact t7_8_true
  · exact t7_9_false
  · exact t7_9_true
  · exact t7_10_false
  · exact t7_10_true
  · exact t7_11_false
  · exact t7_11_true
  · exact t7_12_false
  · exact t7_12_true
end
end Go.Abs
