/- LayoutTabs, a tied card: whatever two numbers and truth value it is called with, it returns true and leaves its arguments as they were. Conditions: those of the row alone (its listed variables of unicode/utf8 hold what the program lays; that is tied to the text). -/
import Derived.Test.YtajobphlclafdaaGreatDoorWalkT
import Derived.Test.YtajobphlclafdaaGreatDoorPostB
import Derived.Test.YtajobphlclafdaaGreatDoorRunT1
import Derived.Test.YtajobphlclafdaaGreatDoorRunT2
import Derived.Test.YtajobphlclafdaaGreatDoorRunT3
import Derived.Test.YtajobphlclafdaaGreatDoorCards
import Derived.Test.YtajobphlclafdaaGreatDoorTie
import Derived.ProofKit
import Derived.OpenShut
import Derived.Deep.DeepHandedRow
import Derived.Lib.LaidTab
import Derived.Lib.LaidIn
import Derived.Lib.LaidU8
set_option linter.unusedVariables false
set_option linter.unusedSimpArgs false
namespace Go.Proofs.YtajobphlclafdaaGreatDoor
open Go.ChangeShapes Go.WideShapes Go.ChangeAt Go.RowKit Go.Abs
set_option linter.unusedVariables false

theorem own : ownKnob Tryz.prog.godebug = none := by kernel_rfl
theorem begin_size : decide (3 < (begin Tryz.prog (fun _ _ => 0) default).world.heap.size) = true := by kernel_rfl
theorem globals_size : Tryz.prog.globals.size = 3 := by kernel_rfl
/-- The package-level variables stand. -/
theorem vars_there {W : World} (h : W.ShapedOpen Tryz.prog) : 3 ≤ W.heap.size := by
  obtain ⟨o, o₀, h1, _⟩ := h.2 3 (by rw [globals_size]; exact Nat.le_refl _) (of_decide_eq_true begin_size)
  rcases Nat.lt_or_ge 3 W.heap.size with hh | hh
  · omega
  · rw [Array.getElem?_eq_none hh] at h1; cases h1

/-- Within the bounds: run. -/
theorem tabs_run (a b : Int) (g : Bool) (h0 : 0 ≤ a) (h1 : a ≤ 8) (h2 : 0 ≤ b) (h3 : b ≤ 12) : Go.Abs.runT a b g = some (.b true) := by
  have ha : a = 0 ∨ a = 1 ∨ a = 2 ∨ a = 3 ∨ a = 4 ∨ a = 5 ∨ a = 6 ∨ a = 7 ∨ a = 8 := by omega
  rcases ha with rfl | rfl | rfl | rfl | rfl | rfl | rfl | rfl | rfl
  · exact Go.Abs.runT_0 b g h2 h3
  · exact Go.Abs.runT_1 b g h2 h3
  · exact Go.Abs.runT_2 b g h2 h3
  · exact Go.Abs.runT_3 b g h2 h3
  · exact Go.Abs.runT_4 b g h2 h3
  · exact Go.Abs.runT_5 b g h2 h3
  · exact Go.Abs.runT_6 b g h2 h3
  · exact Go.Abs.runT_7 b g h2 h3
  · exact Go.Abs.runT_8 b g h2 h3
theorem tabs_in (a b : Int) (g : Bool) (w : World) (hw : 3 ≤ w.heap.size) (h : 0 ≤ a ∧ a ≤ 8 ∧ 0 ≤ b ∧ b ≤ 12) :
    Calls Tryz.prog 4 #[.int .i64 a, .int .i64 b, .bool g] w fun e w' => e = .returned (.bool true) ∧ Below w.heap.size w w' := by
  obtain ⟨h0, h1, h2, h3⟩ := h
  obtain ⟨h', hc⟩ := runY_ok all_okL (extT_ok 6 nums) goodB HX.fresh (show ycall ytabL (extXT 6 nums) 5000 200 4 (.cons (.i .i64 a) (.cons (.i .i64 b) (.cons (.b g) .nil))) n00 hx00 (fun v _ _ => some v) = some (.b true) from tabs_run a b g h0 h1 h2 h3)
  simp only [toL, toV] at hc
  exact fresh_call hc (fun _ => .cons (.int _ _) (.cons (.int _ _) (.cons (.bool _) .nil))) (fun β v' hv => hv.of_bool) hw (Go.Proofs.enters_of Tryz.func4 (by kernel_rfl) rfl _ w)

theorem tabs_any (a b : Int) (g : Bool) (w : World) (hw : 3 ≤ w.heap.size) :
    Calls Tryz.prog 4 #[.int .i64 a, .int .i64 b, .bool g] w fun e w' => e = .returned (.bool true) ∧ Below w.heap.size w w' := by
  by_cases h : 0 ≤ a ∧ a ≤ 8 ∧ 0 ≤ b ∧ b ≤ 12
  · exact tabs_in a b g w hw h
  · exact tabs_out a b g w hw h

set_option maxRecDepth 100000 in
theorem contractT (H : Type) (enc : TypeId × Value → H) (W : World) (base : Nat) (args : Array Value) (ds gs : List (DataW H)) (before : List MemPlace)
    (hval : ∀ (j : Nat) t v, Tryz.f4.params[j]? = some t → args[j]? = some v → Value.okWide Tryz.prog W .any base t v)
    (hW : DataW.Whole enc Tryz.prog Tryz.f4.params.toList Rows.layoutTabsSpec.vars false W args.toList ds gs before) (hS : W.ShapedOpen Tryz.prog) :
    Calls Tryz.prog 4 args W fun e W' => ∃ v, e = .returned v ∧ Rows.layoutTabsSpec.post enc Tryz.prog Tryz.f4 false true false false W args v W' := by
  have hW' := hW
  obtain ⟨p, q, hA0, hV, rfl, hfz, hnd⟩ := hW
  have hA : DataW.TrodAll enc Tryz.prog W 0 (fun _ => true) true Tryz.f4.params.toList args.toList ds p := hA0
  rw [Tryz.params4] at hA hval
  obtain ⟨v0, vs0, d0, ds0, p0, q0, hargs, rfl, rfl, h0, r0⟩ := trodAll_cons hA
  obtain ⟨v1, vs1, d1, ds1, p1, q1, hargs1, rfl, rfl, h1, r1⟩ := trodAll_cons r0
  obtain ⟨v2, vs2, d2, ds2, p2, q2, hargs2, rfl, rfl, h2, r2⟩ := trodAll_cons r1
  obtain ⟨rfl, rfl, rfl⟩ := trodAll_nil r2
  obtain rfl : args = #[v0, v1, v2] := by cases args; simp_all
  obtain ⟨rfl, rfl⟩ := trodVars_none hV
  obtain ⟨a, rfl, rfl, rfl, ia⟩ := open_int Tryz.underlying3 (hval 0 3 v0 rfl rfl) h0
  obtain ⟨b, rfl, rfl, rfl, ib⟩ := open_int Tryz.underlying3 (hval 1 3 v1 rfl rfl) h1
  obtain ⟨c, rfl, rfl, rfl⟩ := open_bool Tryz.underlying4 (hval 2 4 v2 rfl rfl) h2
  clear hA0
  have hw : 3 ≤ W.heap.size := vars_there hS
  refine (tabs_any a b c W hw).mono fun e W' ⟨he, hg⟩ => ?_
  subst he
  exact ⟨_, rfl, post_of_below (pa := []) (pv := []) hW' (fun _ _ _ => trodAll_cons_mk (shut_bool Tryz.underlying4 _) trodAll_mk0)
    (fun _ _ => trodAll_cons_mk (shut_int Tryz.underlying3 ia) (trodAll_cons_mk (shut_int Tryz.underlying3 ib) (trodAll_cons_mk (shut_bool Tryz.underlying4 _) trodAll_mk0))) (fun _ _ => rfl) rfl
    hg (ok_one (by kernel_rfl) rfl (okWide_bool_mk Tryz.underlying4 _))⟩

noncomputable def laidWorld (os : Os) : World :=
  let w0 := World.holding Tryz.prog os ⟨#[], #[], []⟩
  let put (h : Array Obj) (g : Nat) (cs : Array Value) : Array Obj := h.modify g fun
    | .cells _ t frozen => .cells cs t frozen
    | o => o
  let h1 := put w0.heap 0 (Lib.firstTab.map fun z => Value.int .u8 z).toArray
  let h2 := put h1 1 ((List.range 16).flatMap fun i => [Value.int .u8 (Lib.accLo i), Value.int .u8 (Lib.accHi i)]).toArray
  { w0 with heap := h2 }
theorem laid_met (os : Os) (args : Array Value) : laidMet Tryz.prog Rows.layoutTabsRow.laid ((laidWorld os).forCall (fun _ _ => 0) ⟨#[], args, []⟩).memory :=
  laidMet_of_run' 8 (by kernel_rfl) (by kernel_rfl)
theorem readsT (os : Os) {H : Type} (enc : TypeId × Value → H) : ∃ places, DataW.whole enc Tryz.prog ((laidWorld os).forCall (fun _ _ => 0) ⟨#[], #[.int .i64 0, .int .i64 0, .bool false], []⟩).memory Tryz.f4.params.toList Rows.layoutTabsSpec.vars false #[Value.int .i64 0, .int .i64 0, .bool false].toList 8 = some ([.lit (.int .i64 0), .lit (.int .i64 0), .lit (.bool false)], [], places) :=
  ⟨[], by kernel_rfl⟩

set_option maxRecDepth 100000 in
theorem liftedT (os : Os) (started : os.Started) (H : Type) (enc : TypeId × Value → H) (F : Stop.Interp) :
    ReturnsInHanded {} Tryz.checked os 4 .any ((OpenSpec.ofChange Rows.layoutTabsSpec).preRow enc Tryz.prog Tryz.f4 Rows.layoutTabsRow.domain false Rows.layoutTabsRow.laid) (((OpenSpec.ofChange Rows.layoutTabsSpec).at F).post enc Tryz.prog Tryz.f4 false true false false) := by
  obtain ⟨places, hx⟩ := readsT os enc
  refine returnsInHanded_of_row (C := Tryz.checked) (s := OpenSpec.ofChange Rows.layoutTabsSpec) own started (by kernel_rfl) Tryz.func4
    (witness_row_at (enc := enc) (C := Tryz.checked) false (laidWorld os) #[.int .i64 0, .int .i64 0, .bool false] rfl (by kernel_rfl) (by kernel_rfl) (by kernel_rfl)
      (OpenSpec.preRow_of_cond 8 hx (by kernel_rfl) (fun k hk => by cases hk) (by kernel_rfl) (laid_met os _))) ?_
  intro W base args ds gs before hval hW _ _ _ hL hS _
  exact contractT H enc W base args ds gs before hval hW hS

theorem saidT : Rows.LayoutTabsSaid :=
  OpenClaim.holds_of_cond 4 Tryz.f4 rfl rfl rfl rfl rfl rfl rfl ⟨rfl, rfl, rfl, rfl, rfl⟩ rfl rfl rfl rfl rfl (by kernel_rfl) Tryz.func4 (by kernel_rfl)
    (of_decide_eq_true (by kernel_rfl)) (by unfold Func.isWrapper; first | (rw [if_pos (by decide +kernel)]; kernel_rfl) | (rw [if_neg (by decide +kernel)]; exact ⟨rfl, rfl⟩))
    (fun os started H enc _ F => by rw [OpenClaim.pre_eq_preRow]; exact liftedT os started H enc F)

theorem plainT (f : FuncId) (fn : Func) (hf : Tryz.pinned.checked.prog.funcNamed "recension/recensionlaw18.LayoutTabs" = some f) (hfn : Tryz.pinned.checked.prog.funcs[f]? = some fn) :
    false = Tryz.pinned.checked.prog.looks [] ∧ ∀ (j : Nat) t, fn.params[j]? = some t → Tryz.pinned.checked.prog.wantsStandIn t = false := by
  obtain rfl : f = 4 := Option.some.inj ((show Tryz.prog.funcNamed "recension/recensionlaw18.LayoutTabs" = some 4 by kernel_rfl).symm.trans hf) |>.symm
  obtain rfl : fn = Tryz.f4 := (Option.some.inj (Tryz.func4.symm.trans hfn)).symm
  refine ⟨by kernel_rfl, fun j t ht => ?_⟩
  rw [Tryz.params4] at ht
  have ht' : t = 3 ∨ t = 4 := by have := Array.mem_of_getElem? ht; simpa using this
  rcases ht' with rfl | rfl
  · exact (show Tryz.prog.wantsStandIn 3 = false by kernel_rfl)
  · exact (show Tryz.prog.wantsStandIn 4 = false by kernel_rfl)

theorem cardT : Rows.LayoutTabsCardSaid :=
  Claim7.holds_tied_plain_at .later [] _ _ _ _ saidT (fun _ h => by cases h) (by kernel_rfl) (fun _ h => by cases h) layoutTabs_row_tie rfl ⟨rfl, rfl⟩ (by kernel_rfl) rfl plainT (by kernel_rfl)
#print axioms cardT
end Go.Proofs.YtajobphlclafdaaGreatDoor
