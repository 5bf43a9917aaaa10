import Derived.Test.YtajobphlclafdaaGreatDoorExtD
import Derived.Test.YtajobphlclafdaaGreatDoorExtA2
import Derived.Test.YtajobphlclafdaaGreatDoorExtA3
import Derived.Test.YtajobphlclafdaaGreatDoorEngZk
import Derived.Test.YtajobphlclafdaaGreatDoorYChk
import Derived.Test.YtajobphlclafdaaGreatDoorRunYB
set_option linter.unusedVariables false
set_option linter.unusedSimpArgs false
namespace Go.Proofs.YtajobphlclafdaaGreatDoor
open Go.RowKit Go.Abs
set_option linter.unusedVariables false

theorem goodE : Go.Abs.Good Tryz.prog (extA nums) := good_ext str_nil str_some
theorem enters6 : ∀ w, (callFunc 6 #[]).run Tryz.prog w = .ok (.enter 6 #[]) w := fun w => Go.Proofs.enters_of Tryz.func6 (by kernel_rfl) rfl _ w
theorem begun_ok : ∃ h', CallOk Tryz.prog 6 [] h00 (.bool true) h' := by
  obtain ⟨h', hc⟩ := runY_ok all_ok (ext_ok nums) goodE HX.fresh (show ycall ytab (extX nums) 5000 200 6 .nil n00 hx00 (fun v _ _ => some v) = some (.b true) from begun_run)
  simp only [toL, toV] at hc
  exact ⟨h', hc⟩
theorem begun_any (h : H) : CallOk Tryz.prog 6 [] h (.bool true) h := by
  obtain ⟨h', hc⟩ := begun_ok
  exact CallOk.any hc enters6 h
theorem begun_calls {w : World} (hw : 3 ≤ w.heap.size) : Calls Tryz.prog 6 #[] w fun e w' => e = .returned (.bool true) ∧ Below w.heap.size w w' := by
  obtain ⟨h', hc⟩ := begun_ok
  exact fresh_call hc (fun _ => .nil) (fun β v' hv => hv.of_bool) hw (enters6 w)
theorem goodB : Go.Abs.Good Tryz.prog (extAT 6 nums) := goodT goodE begun_any

end Go.Proofs.YtajobphlclafdaaGreatDoor
