import Derived.Test.YtajobphlclafdaaGreatDoorChecked
import Derived.WalkKit
import Derived.Shelf.RegionOpenPlain
import Derived.Lib.Walk
import Derived.Lib.Builder
import Derived.Lib.UnsafeStr
import Derived.Laws.Externs
import Derived.Test.YtajobphlclafdaaGreatDoorExtG
set_option linter.unusedVariables false
set_option linter.unusedSimpArgs false
set_option linter.unusedVariables false
namespace Go.Proofs.YtajobphlclafdaaGreatDoor
open Go.RowKit Go.Abs

theorem szB : (Tryz.prog.info? 47).map (·.size) = some 2 := by kernel_rfl
theorem liesB : liesAt Tryz.prog Tryz.prog.depth 47 (2 / Tryz.prog.cellsOf 47) 0 47 1 = true := by kernel_rfl
theorem cellB : Tryz.prog.cellsOf 5 = 1 := by kernel_rfl

set_option maxHeartbeats 2000000 in
set_option maxRecDepth 100000 in
theorem str_some (b o g q c cells : Nat) (l : List UInt8) (w : World) (h0 : l ≠ []) (c0 : w.cell? ⟨b, o + 1, none⟩ = some (.slice (some ⟨g, q, none⟩) l.length c)) (hc : l.length ≤ c) (hsh : w.shape? g = some (5, cells)) (hn : q + l.length ≤ cells) (h63 : l.length ≤ 9223372036854775807)
    (hcell : ∀ j x, l[j]? = some x → w.cell? ⟨g, q + j, none⟩ = some (.int .u8 x.toNat)) :
    Calls Tryz.prog 21 #[.pointer (some ⟨b, o, none⟩)] w fun e w' => e = .returned (.string ⟨l.toArray⟩) ∧ w' = w.drew.freeze ⟨g, q, none⟩ l.length := by
  have hl0 : l.length ≠ 0 := by simpa using h0
  have c1 : w.drew.cell? ⟨b, o + 1, none⟩ = some (.slice (some ⟨g, q, none⟩) l.length c) := c0
  have hSD : (Builtin.unsafeSliceData_ #[45] 77 #[.slice (some ⟨g, q, none⟩) l.length c]).run Tryz.prog w.drew = .ok (.pointer (some ⟨g, q, none⟩)) w.drew :=
    Lib.run_unsafeSliceData_row _ _ _ _ _ _ (by omega)
  have hUS : (Builtin.unsafeString_ #[77, 3] 9 #[.pointer (some ⟨g, q, none⟩), .int .i64 l.length]).run Tryz.prog w.drew = .ok (.string ⟨l.toArray⟩) (w.drew.freeze ⟨g, q, none⟩ l.length) :=
    run_string_at w.drew 77 3 9 5 Tryz.underlying77 cellB g q cells hsh l h0 hn h63 hcell
  clear hcell h63 hn hc hl0
  have mixed : Tryz.prog.follows .mixedOrders = true := by kernel_rfl
  go_enter Tryz.func21, Tryz.ntmps21
  go_wp2
  go_region_o
  all_goals (go_wp2; go_ret; exact ⟨rfl, rfl⟩)

end Go.Proofs.YtajobphlclafdaaGreatDoor
