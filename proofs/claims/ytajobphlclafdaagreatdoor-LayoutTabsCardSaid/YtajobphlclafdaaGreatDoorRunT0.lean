import Derived.Test.YtajobphlclafdaaGreatDoorYTab
import Derived.KernelRfl
set_option linter.unusedVariables false
set_option linter.unusedSimpArgs false
/-! LayoutTabs, where its numbers are within their bounds: run (part 0). -/
namespace Go.Abs
noncomputable section
set_option maxRecDepth 100000
def N1 : Nums := { check := 43, str := 21, index := 146, count := 112, T := [(46, 2, 0), (47, 2, 0), (48, 9, 2), (49, 9, 2)], U := 5 }
def hx01 : Hp := N16.all (N16.all (N16.all (N16.all .no)))
def runT (o t : Int) (g : Bool) : R := ycall ytabL (extXT 6 N1) 5000 200 4 (.cons (.i .i64 o) (.cons (.i .i64 t) (.cons (.b g) .nil))) ⟨.d3, .d0, .d0, .d0⟩ hx01 (fun v _ _ => some v)
theorem t0_0_true : runT 0 0 true = some (.b true) := by kernel_rfl
theorem t0_0_false : runT 0 0 false = some (.b true) := by kernel_rfl
theorem t0_1_true : runT 0 1 true = some (.b true) := by kernel_rfl
theorem t0_1_false : runT 0 1 false = some (.b true) := by kernel_rfl
theorem t0_2_true : runT 0 2 true = some (.b true) := by kernel_rfl
theorem t0_2_false : runT 0 2 false = some (.b true) := by kernel_rfl
theorem t0_3_true : runT 0 3 true = some (.b true) := by kernel_rfl
theorem t0_3_false : runT 0 3 false = some (.b true) := by kernel_rfl
theorem t0_4_true : runT 0 4 true = some (.b true) := by kernel_rfl
theorem t0_4_false : runT 0 4 false = some (.b true) := by kernel_rfl
theorem t0_5_true : runT 0 5 true = some (.b true) := by kernel_rfl
theorem t0_5_false : runT 0 5 false = some (.b true) := by kernel_rfl
theorem t0_6_true : runT 0 6 true = some (.b true) := by kernel_rfl
theorem t0_6_false : runT 0 6 false = some (.b true) := by kernel_rfl
theorem t0_7_true : runT 0 7 true = some (.b true) := by kernel_rfl
theorem t0_7_false : runT 0 7 false = some (.b true) := by kernel_rfl
theorem t0_8_true : runT 0 8 true = some (.b true) := by kernel_rfl
theorem t0_8_false : runT 0 8 false = some (.b true) := by kernel_rfl
theorem t0_9_true : runT 0 9 true = some (.b true) := by kernel_rfl
theorem t0_9_false : runT 0 9 false = some (.b true) := by kernel_rfl
theorem t0_10_true : runT 0 10 true = some (.b true) := by kernel_rfl
theorem t0_10_false : runT 0 10 false = some (.b true) := by kernel_rfl
theorem t0_11_true : runT 0 11 true = some (.b true) := by kernel_rfl
theorem t0_11_false : runT 0 11 false = some (.b true) := by kernel_rfl
theorem t0_12_true : runT 0 12 true = some (.b true) := by kernel_rfl
theorem t0_12_false : runT 0 12 false = some (.b true) := by kernel_rfl
theorem runT_0 (t : Int) (g : Bool) (h0 : 0 ≤ t) (h1 : t ≤ 12) : runT 0 t g = some (.b true) := by
  have ht : t = 0 ∨ t = 1 ∨ t = 2 ∨ t = 3 ∨ t = 4 ∨ t = 5 ∨ t = 6 ∨ t = 7 ∨ t = 8 ∨ t = 9 ∨ t = 10 ∨ t = 11 ∨ t = 12 := by omega
  rcases ht with rfl | rfl | rfl | rfl | rfl | rfl | rfl | rfl | rfl | rfl | rfl | rfl | rfl <;> cases g
  · exact t0_0_false
  · exact t0_0_true
  · exact t0_1_false
  · exact t0_1_true
  · exact t0_2_false
  · exact t0_2_true
  · exact t0_3_false
  · exact t0_3_true
  · exact t0_4_false
  · exact t0_4_true
  · exact t0_5_false
  · exact t0_5_true
  · exact t0_6_false
  · exact t0_6_true
  · exact t0_7_false
  · exact t0_7_true
  · exact t0_8_false
  · exact t0_8_true
  · exact t0_9_false
  · exact t0_9_true
  · exact t0_10_false
  · exact t0_10_true
  · exact t0_11_false
  · exact t0_11_true
  · exact t0_12_false
  · exact t0_12_true
theorem t1_0_true : runT 1 0 true = some (.b true) := by kernel_rfl
theorem t1_0_false : runT 1 0 false = some (.b true) := by kernel_rfl
theorem t1_1_true : runT 1 1 true = some (.b true) := by kernel_rfl
theorem t1_1_false : runT 1 1 false = some (.b true) := by kernel_rfl
theorem t1_2_true : runT 1 2 true = some (.b true) := by kernel_rfl
theorem t1_2_false : runT 1 2 false = some (.b true) := by kernel_rfl
theorem t1_3_true : runT 1 3 true = some (.b true) := by kernel_rfl
theorem t1_3_false : runT 1 3 false = some (.b true) := by kernel_rfl
theorem t1_4_true : runT 1 4 true = some (.b true) := by kernel_rfl
theorem t1_4_false : runT 1 4 false = some (.b true) := by kernel_rfl
theorem t1_5_true : runT 1 5 true = some (.b true) := by kernel_rfl
theorem t1_5_false : runT 1 5 false = some (.b true) := by kernel_rfl
theorem t1_6_true : runT 1 6 true = some (.b true) := by kernel_rfl
theorem t1_6_false : runT 1 6 false = some (.b true) := by kernel_rfl
theorem t1_7_true : runT 1 7 true = some (.b true) := by kernel_rfl
theorem t1_7_false : runT 1 7 false = some (.b true) := by kernel_rfl
theorem t1_8_true : runT 1 8 true = some (.b true) := by kernel_rfl
theorem t1_8_false : runT 1 8 false = some (.b true) := by kernel_rfl
theorem t1_9_true : runT 1 9 true = some (.b true) := by kernel_rfl
theorem t1_9_false : runT 1 9 false = some (.b true) := by kernel_rfl
theorem t1_10_true : runT 1 10 true = some (.b true) := by kernel_rfl
theorem t1_10_false : runT 1 10 false = some (.b true) := by kernel_rfl
theorem t1_11_true : runT 1 11 true = some (.b true) := by kernel_rfl
theorem t1_11_false : runT 1 11 false = some (.b true) := by kernel_rfl
theorem t1_12_true : runT 1 12 true = some (.b true) := by kernel_rfl
theorem t1_12_false : runT 1 12 false = some (.b true) := by kernel_rfl
theorem runT_1 (t : Int) (g : Bool) (h0 : 0 ≤ t) (h1 : t ≤ 12) : runT 1 t g = some (.b true) := by
  have ht : t = 0 ∨ t = 1 ∨ t = 2 ∨ t = 3 ∨ t = 4 ∨ t = 5 ∨ t = 6 ∨ t = 7 ∨ t = 8 ∨ t = 9 ∨ t = 10 ∨ t = 11 ∨ t = 12 := by omega
  rcases ht with rfl | rfl | rfl | rfl | rfl | rfl | rfl | rfl | rfl | rfl | rfl | rfl | rfl <;> cases g
  · exact t1_0_false
  · exact t1_0_true
  · exact t1_1_false
  · exact t1_1_true
  · exact t1_2_false
  · exact t1_2_true
  · exact t1_3_false
  · exact t1_3_true
  · exact t1_4_false
  · exact t1_4_true
  · exact t1_5_false
  · exact t1_5_true
  · exact t1_6_false
  · exact t1_6_true
  · exact t1_7_false
  · exact t1_7_true
  · exact t1_8_false
  · exact t1_8_true
  · exact t1_9_false
  · exact t1_9_true
  · exact t1_10_false
  · exact t1_10_true
  · exact t1_11_false
  · exact t1_11_true
  · exact t1_12_false
  · exact t1_12_true
theorem t2_0_true : runT 2 0 true = some (.b true) := by kernel_rfl
theorem t2_0_false : runT 2 0 false = some (.b true) := by kernel_rfl
theorem t2_1_true : runT 2 1 true = some (.b true) := by kernel_rfl
theorem t2_1_false : runT 2 1 false = some (.b true) := by kernel_rfl
theorem t2_2_true : runT 2 2 true = some (.b true) := by kernel_rfl
theorem t2_2_false : runT 2 2 false = some (.b true) := by kernel_rfl
theorem t2_3_true : runT 2 3 true = some (.b true) := by kernel_rfl
theorem t2_3_false : runT 2 3 false = some (.b true) := by kernel_rfl
theorem t2_4_true : runT 2 4 true = some (.b true) := by kernel_rfl
theorem t2_4_false : runT 2 4 false = some (.b true) := by kernel_rfl
theorem t2_5_true : runT 2 5 true = some (.b true) := by kernel_rfl
theorem t2_5_false : runT 2 5 false = some (.b true) := by kernel_rfl
theorem t2_6_true : runT 2 6 true = some (.b true) := by kernel_rfl
theorem t2_6_false : runT 2 6 false = some (.b true) := by kernel_rfl
theorem t2_7_true : runT 2 7 true = some (.b true) := by kernel_rfl
theorem t2_7_false : runT 2 7 false = some (.b true) := by kernel_rfl
theorem t2_8_true : runT 2 8 true = some (.b true) := by kernel_rfl
theorem t2_8_false : runT 2 8 false = some (.b true) := by kernel_rfl
theorem t2_9_true : runT 2 9 true = some (.b true) := by kernel_rfl
theorem t2_9_false : runT 2 9 false = some (.b true) := by kernel_rfl
theorem t2_10_true : runT 2 10 true = some (.b true) := by kernel_rfl
theorem t2_10_false : runT 2 10 false = some (.b true) := by kernel_rfl
theorem t2_11_true : runT 2 11 true = some (.b true) := by kernel_rfl
theorem t2_11_false : runT 2 11 false = some (.b true) := by kernel_rfl
theorem t2_12_true : runT 2 12 true = some (.b true) := by kernel_rfl
theorem t2_12_false : runT 2 12 false = some (.b true) := by kernel_rfl
theorem runT_2 (t : Int) (g : Bool) (h0 : 0 ≤ t) (h1 : t ≤ 12) : runT 2 t g = some (.b true) := by
  have ht : t = 0 ∨ t = 1 ∨ t = 2 ∨ t = 3 ∨ t = 4 ∨ t = 5 ∨ t = 6 ∨ t = 7 ∨ t = 8 ∨ t = 9 ∨ t = 10 ∨ t = 11 ∨ t = 12 := by omega
  rcases ht with rfl | rfl | rfl | rfl | rfl | rfl | rfl | rfl | rfl | rfl | rfl | rfl | rfl <;> cases g
  · exact t2_0_false
  · exact t2_0_true
  · exact t2_1_false
  · exact t2_1_true
  · exact t2_2_false
  · exact t2_2_true
  · exact t2_3_false
  · exact t2_3_true
  · exact t2_4_false
  · exact t2_4_true
  · exact t2_5_false
  · exact t2_5_true
  · exact t2_6_false
  · exact t2_6_true
  · exact t2_7_false
  · exact t2_7_true
  · exact t2_8_false
  · exact t2_8_true
  · exact t2_9_false
  · exact t2_9_true
  · exact t2_10_false
  · exact t2_10_true
  · exact t2_11_false
  · exact t2_11_true
  · exact t2_12_false
  · exact t2_12_true
theorem t3_0_true : runT 3 0 true = some (.b true) := by kernel_rfl
theorem t3_0_false : runT 3 0 false = some (.b true) := by kernel_rfl
theorem t3_1_true : runT 3 1 true = some (.b true) := by kernel_rfl
theorem t3_1_false : runT 3 1 false = some (.b true) := by kernel_rfl
theorem t3_2_true : runT 3 2 true = some (.b true) := by kernel_rfl
theorem t3_2_false : runT 3 2 false = some (.b true) := by kernel_rfl
theorem t3_3_true : runT 3 3 true = some (.b true) := by kernel_rfl
theorem t3_3_false : runT 3 3 false = some (.b true) := by kernel_rfl
theorem t3_4_true : runT 3 4 true = some (.b true) := by kernel_rfl
theorem t3_4_false : runT 3 4 false = some (.b true) := by kernel_rfl
theorem t3_5_true : runT 3 5 true = some (.b true) := by kernel_rfl
theorem t3_5_false : runT 3 5 false = some (.b true) := by kernel_rfl
theorem t3_6_true : runT 3 6 true = some (.b true) := by kernel_rfl
theorem t3_6_false : runT 3 6 false = some (.b true) := by kernel_rfl
theorem t3_7_true : runT 3 7 true = some (.b true) := by kernel_rfl
theorem t3_7_false : runT 3 7 false = some (.b true) := by kernel_rfl
theorem t3_8_true : runT 3 8 true = some (.b true) := by kernel_rfl
theorem t3_8_false : runT 3 8 false = some (.b true) := by kernel_rfl
theorem t3_9_true : runT 3 9 true = some (.b true) := by kernel_rfl
theorem t3_9_false : runT 3 9 false = some (.b true) := by kernel_rfl
theorem t3_10_true : runT 3 10 true = some (.b true) := by kernel_rfl
theorem t3_10_false : runT 3 10 false = some (.b true) := by kernel_rfl
theorem t3_11_true : runT 3 11 true = some (.b true) := by kernel_rfl
theorem t3_11_false : runT 3 11 false = some (.b true) := by kernel_rfl
theorem t3_12_true : runT 3 12 true = some (.b true) := by kernel_rfl
theorem t3_12_false : runT 3 12 false = some (.b true) := by kernel_rfl
theorem runT_3 (t : Int) (g : Bool) (h0 : 0 ≤ t) (h1 : t ≤ 12) : runT 3 t g = some (.b true) := by
  have ht : t = 0 ∨ t = 1 ∨ t = 2 ∨ t = 3 ∨ t = 4 ∨ t = 5 ∨ t = 6 ∨ t = 7 ∨ t = 8 ∨ t = 9 ∨ t = 10 ∨ t = 11 ∨ t = 12 := by omega
  rcases ht with rfl | rfl | rfl | rfl | rfl | rfl | rfl | rfl | rfl | rfl | rfl | rfl | rfl <;> cases g
  · exact t3_0_false
  · exact t3_0_true
  · exact t3_1_false
  · exact t3_1_true
  · exact t3_2_false
  · exact t3_2_true
  · exact t3_3_false
  · exact t3_3_true
  · exact t3_4_false
  · exact t3_4_true
  · exact t3_5_false
  · exact t3_5_true
  · exact t3_6_false
  · exact t3_6_true
  · exact t3_7_false
  · exact t3_7_true
  · exact t3_8_false
  · exact t3_8_true
  · exact t3_9_false
  · exact t3_9_true
  · exact t3_10_false
  · exact t3_10_true
  · exact t3_11_false
  · exact t3_11_true
  · exact t3_12_false
  · exact t3_12_true
end
end Go.Abs
