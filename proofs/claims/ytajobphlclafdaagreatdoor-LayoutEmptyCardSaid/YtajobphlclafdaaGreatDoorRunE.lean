import Derived.Test.YtajobphlclafdaaGreatDoorXTab
import Derived.Test.YtajobphlclafdaaGreatDoorEngZj
import Derived.Test.YtajobphlclafdaaGreatDoorRunB
import Derived.KernelRfl
set_option linter.unusedVariables false
set_option linter.unusedSimpArgs false
/-! LayoutEmpty, where its numbers are within their bounds: run. -/
namespace Go.Abs
noncomputable section
set_option maxRecDepth 100000
def runE (a b c : Int) : R := xcall xtabL (extXT 6 N1) 5000 200 5 (.cons (.i .i64 a) (.cons (.i .i64 b) (.cons (.i .i64 c) .nil))) ⟨.d3, .d0, .d0, .d0⟩ hx01 (fun v _ _ => some v)
theorem e000 : runE 0 0 0 = some (.b true) := by kernel_rfl
theorem e001 : runE 0 0 1 = some (.b true) := by kernel_rfl
theorem e002 : runE 0 0 2 = some (.b true) := by kernel_rfl
theorem e003 : runE 0 0 3 = some (.b true) := by kernel_rfl
theorem e010 : runE 0 1 0 = some (.b true) := by kernel_rfl
theorem e011 : runE 0 1 1 = some (.b true) := by kernel_rfl
theorem e012 : runE 0 1 2 = some (.b true) := by kernel_rfl
theorem e013 : runE 0 1 3 = some (.b true) := by kernel_rfl
theorem e020 : runE 0 2 0 = some (.b true) := by kernel_rfl
theorem e021 : runE 0 2 1 = some (.b true) := by kernel_rfl
theorem e022 : runE 0 2 2 = some (.b true) := by kernel_rfl
theorem e023 : runE 0 2 3 = some (.b true) := by kernel_rfl
theorem e030 : runE 0 3 0 = some (.b true) := by kernel_rfl
theorem e031 : runE 0 3 1 = some (.b true) := by kernel_rfl
theorem e032 : runE 0 3 2 = some (.b true) := by kernel_rfl
theorem e033 : runE 0 3 3 = some (.b true) := by kernel_rfl
theorem e100 : runE 1 0 0 = some (.b true) := by kernel_rfl
theorem e101 : runE 1 0 1 = some (.b true) := by kernel_rfl
theorem e102 : runE 1 0 2 = some (.b true) := by kernel_rfl
theorem e103 : runE 1 0 3 = some (.b true) := by kernel_rfl
theorem e110 : runE 1 1 0 = some (.b true) := by kernel_rfl
theorem e111 : runE 1 1 1 = some (.b true) := by kernel_rfl
theorem e112 : runE 1 1 2 = some (.b true) := by kernel_rfl
theorem e113 : runE 1 1 3 = some (.b true) := by kernel_rfl
theorem e120 : runE 1 2 0 = some (.b true) := by kernel_rfl
theorem e121 : runE 1 2 1 = some (.b true) := by kernel_rfl
theorem e122 : runE 1 2 2 = some (.b true) := by kernel_rfl
theorem e123 : runE 1 2 3 = some (.b true) := by kernel_rfl
theorem e130 : runE 1 3 0 = some (.b true) := by kernel_rfl
theorem e131 : runE 1 3 1 = some (.b true) := by kernel_rfl
theorem e132 : runE 1 3 2 = some (.b true) := by kernel_rfl
theorem e133 : runE 1 3 3 = some (.b true) := by kernel_rfl
theorem e200 : runE 2 0 0 = some (.b true) := by kernel_rfl
theorem e201 : runE 2 0 1 = some (.b true) := by kernel_rfl
theorem e202 : runE 2 0 2 = some (.b true) := by kernel_rfl
theorem e203 : runE 2 0 3 = some (.b true) := by kernel_rfl
theorem e210 : runE 2 1 0 = some (.b true) := by kernel_rfl
theorem e211 : runE 2 1 1 = some (.b true) := by kernel_rfl
theorem e212 : runE 2 1 2 = some (.b true) := by kernel_rfl
theorem e213 : runE 2 1 3 = some (.b true) := by kernel_rfl
theorem e220 : runE 2 2 0 = some (.b true) := by kernel_rfl
theorem e221 : runE 2 2 1 = some (.b true) := by kernel_rfl
theorem e222 : runE 2 2 2 = some (.b true) := by kernel_rfl
theorem e223 : runE 2 2 3 = some (.b true) := by kernel_rfl
theorem e230 : runE 2 3 0 = some (.b true) := by kernel_rfl
theorem e231 : runE 2 3 1 = some (.b true) := by kernel_rfl
theorem e232 : runE 2 3 2 = some (.b true) := by kernel_rfl
theorem e233 : runE 2 3 3 = some (.b true) := by kernel_rfl
theorem e300 : runE 3 0 0 = some (.b true) := by kernel_rfl
theorem e301 : runE 3 0 1 = some (.b true) := by kernel_rfl
theorem e302 : runE 3 0 2 = some (.b true) := by kernel_rfl
theorem e303 : runE 3 0 3 = some (.b true) := by kernel_rfl
theorem e310 : runE 3 1 0 = some (.b true) := by kernel_rfl
theorem e311 : runE 3 1 1 = some (.b true) := by kernel_rfl
theorem e312 : runE 3 1 2 = some (.b true) := by kernel_rfl
theorem e313 : runE 3 1 3 = some (.b true) := by kernel_rfl
theorem e320 : runE 3 2 0 = some (.b true) := by kernel_rfl
theorem e321 : runE 3 2 1 = some (.b true) := by kernel_rfl
theorem e322 : runE 3 2 2 = some (.b true) := by kernel_rfl
theorem e323 : runE 3 2 3 = some (.b true) := by kernel_rfl
theorem e330 : runE 3 3 0 = some (.b true) := by kernel_rfl
theorem e331 : runE 3 3 1 = some (.b true) := by kernel_rfl
theorem e332 : runE 3 3 2 = some (.b true) := by kernel_rfl
theorem e333 : runE 3 3 3 = some (.b true) := by kernel_rfl
theorem runE_all (a b c : Int) (h0 : 0 ≤ a) (h1 : a ≤ 3) (h2 : 0 ≤ b) (h3 : b ≤ 3) (h4 : 0 ≤ c) (h5 : c ≤ 3) : runE a b c = some (.b true) := by
  have ha : a = 0 ∨ a = 1 ∨ a = 2 ∨ a = 3 := by omega
  have hb : b = 0 ∨ b = 1 ∨ b = 2 ∨ b = 3 := by omega
  have hc : c = 0 ∨ c = 1 ∨ c = 2 ∨ c = 3 := by omega
  rcases ha with rfl | rfl | rfl | rfl <;> rcases hb with rfl | rfl | rfl | rfl <;> rcases hc with rfl | rfl | rfl | rfl
  · exact e000
  · exact e001
  · exact e002
  · exact e003
  · exact e010
  · exact e011
  · exact e012
  · exact e013
  · exact e020
  · exact e021
  · exact e022
  · exact e023
  · exact e030
  · exact e031
  · exact e032
  · exact e033
  · exact e100
  · exact e101
  · exact e102
  · exact e103
  · exact e110
  · exact e111
  · exact e112
  · exact e113
  · exact e120
  · exact e121
  · exact e122
  · exact e123
  · exact e130
  · exact e131
  · exact e132
  · exact e133
  · exact e200
  · exact e201
  · exact e202
  · exact e203
  · exact e210
  · exact e211
  · exact e212
  · exact e213
  · exact e220
  · exact e221
  · exact e222
  · exact e223
  · exact e230
  · exact e231
  · exact e232
  · exact e233
  · exact e300
  · exact e301
  · exact e302
  · exact e303
  · exact e310
  · exact e311
  · exact e312
  · exact e313
  · exact e320
  · exact e321
  · exact e322
  · exact e323
  · exact e330
  · exact e331
  · exact e332
  · exact e333
end
end Go.Abs
