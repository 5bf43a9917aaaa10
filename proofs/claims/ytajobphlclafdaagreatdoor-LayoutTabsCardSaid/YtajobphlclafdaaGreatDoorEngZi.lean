import Derived.Test.YtajobphlclafdaaGreatDoorEngZh
import Derived.Test.YtajobphlclafdaaGreatDoorEngS
set_option linter.unusedVariables false
set_option linter.unusedSimpArgs false
/-! A run of the quick machine tells the model's call. -/
namespace Go.Abs
open Go.RowKit
set_option linter.unusedVariables false
noncomputable section

/-- Is the quick function the program's? -/
def chk (P : Program) (fn : Func) (an : Ann) (x : XFn) : Bool := !(fn.name == "runtime.NumGoroutine") && match compF P fn an with
  | some a => okF x a
  | none => false

/-- A function of the quick table is the program's. -/
def FnOk (P : Program) (f : Nat) (x : XFn) : Prop := ∃ fn an, P.funcs[f]? = some fn ∧ chk P fn an x = true

def AllT (Q : Nat → XFn → Prop) : XT → (Nat → Nat) → Prop
  | .nil, _ => True
  | .node v l r, g => (∀ x, v = some x → Q (g 0) x) ∧ AllT Q l (fun n => g (2 * n + 1)) ∧ AllT Q r (fun n => g (2 * n + 2))

theorem AllT.one {Q : Nat → XFn → Prop} {i : Nat} {y : XFn} (h : Q i y) : ∀ x, some y = some x → Q i x := fun x e => by cases e; exact h
theorem AllT.non {Q : Nat → XFn → Prop} {i : Nat} : ∀ x, (none : Option XFn) = some x → Q i x := fun x e => by cases e

theorem find_node (v : Option XFn) (l r : XT) (f : Nat) : (XT.node v l r).find f = if f = 0 then v else if f % 2 = 1 then l.find (f / 2) else r.find (f / 2 - 1) := by
  cases f with
  | zero => rfl
  | succ f =>
    rw [if_neg (by omega)]
    have h : (XT.node v l r).find (f + 1) = Nat.rec (motive := fun _ => (Nat → Option XFn) → (Nat → Option XFn) → Nat → Option XFn) (fun l _ q => l q) (fun _ _ _ r q => r q) (Nat.mod f 2) l.find r.find (Nat.div f 2) := rfl
    rw [h]
    have h2 : Nat.mod f 2 = f % 2 := rfl
    have h3 : Nat.div f 2 = f / 2 := rfl
    rw [h2, h3]
    rcases Nat.mod_two_eq_zero_or_one f with e | e
    · rw [e, if_pos (by omega), show (f + 1) / 2 = f / 2 by omega]; rfl
    · rw [e, if_neg (by omega), show (f + 1) / 2 - 1 = f / 2 by omega]; rfl

theorem AllT.find {Q : Nat → XFn → Prop} : ∀ {t : XT} {g : Nat → Nat}, AllT Q t g → ∀ {f : Nat} {x : XFn}, t.find f = some x → Q (g f) x
  | .nil, g, _, f, x, h => by cases h
  | .node v l r, g, ha, f, x, h => by
    obtain ⟨h1, h2, h3⟩ := ha
    rw [find_node] at h
    by_cases e : f = 0
    · rw [if_pos e] at h; subst e; exact h1 x h
    · rw [if_neg e] at h
      by_cases e1 : f % 2 = 1
      · rw [if_pos e1] at h
        have := h2.find h
        rw [show 2 * (f / 2) + 1 = f by omega] at this; exact this
      · rw [if_neg e1] at h
        have := h3.find h
        rw [show 2 * (f / 2 - 1) + 2 = f by omega] at this; exact this

theorem tab_of {P : Program} {tabx : XT} (ha : AllT (FnOk P) tabx (fun n => n)) : ∃ tab, TabOk P tab ∧ ∀ f, match tabx.find f with
    | some x => ∃ a, tab f = some a ∧ okF x a = true
    | none => tab f = none := by
  have key : ∀ f, ∃ o : Option AFunc, (∀ af, o = some af → ∃ fn an, P.funcs[f]? = some fn ∧ (fn.name == "runtime.NumGoroutine") = false ∧ compF P fn an = some af) ∧ (match tabx.find f with
    | some x => ∃ a, o = some a ∧ okF x a = true
    | none => o = none) := by
    intro f
    cases h : tabx.find f with
    | none => exact ⟨none, ⟨fun af e => (by cases e), rfl⟩⟩
    | some x =>
      obtain ⟨fn, an, h1, h2⟩ := ha.find h
      unfold chk at h2
      simp only [Bool.and_eq_true, Bool.not_eq_true'] at h2
      obtain ⟨h2, h3⟩ := h2
      split at h3
      · rename_i a hc
        exact ⟨some a, ⟨fun af e => (by cases e; exact ⟨fn, an, h1, h2, hc⟩), a, rfl, h3⟩⟩
      · cases h3
  exact ⟨fun f => (key f).choose, fun f af h => (key f).choose_spec.1 af h, fun f => (key f).choose_spec.2⟩

/-- The quick machine is right: what it gives is what the model's call gives. -/
theorem run_ok {P : Program} {tabx : XT} (ha : AllT (FnOk P) tabx (fun n => n)) {ex : XF} {ea : FF} (hex : FOK ex ea) (hE : Good P ea) {m k f : Nat} {a : XV} {n : Pb} {hx : Hp} {h : H} (H0 : HX n hx h) {r : XV}
    (hr : xcall tabx ex m k f a n hx (fun v _ _ => some v) = some r) : ∃ h', CallOk P f (toL a) h (toV r) h' := by
  obtain ⟨tab, h1, h2⟩ := tab_of ha
  obtain ⟨v, n', hx', h', e1, e2, e3⟩ := xcall_ok h2 hex k f a n hx _ r hr h H0
  cases e3
  exact ⟨h', call_ok draw_right h1 hE m k f _ _ _ _ e1⟩

/-! ### a fresh heap -/
/-- Nothing but the names of the package-level variables. -/
def h00 : H := ⟨NG, .nil⟩
def hx00 : Hp := N16.all (N16.all (N16.all (N16.all .no)))
def n00 : Pb := ⟨.d3, .d0, .d0, .d0⟩
def β0 : Ren := fun g => if g < NG then some ⟨g, 0, 0⟩ else none

theorem HX.fresh : HX n00 hx00 h00 := ⟨rfl, fun b => .inl (by simp only [hget, hx00, sel_all])⟩

theorem HRel.begin {w : World} (hw : NG ≤ w.heap.size) : HRel w.heap.size β0 h00 w := by
  have hg : ∀ b, h00.get b = none := fun b => rfl
  refine ⟨?_, ?_, ?_, ?_, ?_, ?_, Nat.le_refl _, ?_⟩
  · intro b o p h; rw [hg] at h; cases h
  · intro b o p h; rw [hg] at h; cases h
  · intro b b' o o' p p' h; rw [hg] at h; cases h
  · intro b hb
    refine ⟨?_, rfl⟩
    have hb' : NG ≤ b := hb
    simp only [β0]; rw [if_neg (by omega)]
  · intro g p hp
    simp only [β0] at hp
    split at hp
    · cases hp; simp only []; omega
    · cases hp
  · intro b c e p h; rw [hg] at h; cases h
  · intro g hg'; exact ⟨0, by simp only [β0]; rw [if_pos hg']⟩

/-- A call at a fresh heap whose result holds no address: it returns that, and changes nothing that was. -/
theorem fresh_call {P : Program} {f : FuncId} {args : List Value} {v : Value} {h' : H} (hc : CallOk P f args h00 v h') (ha : ∀ β, LRel β args args) (hv : ∀ β v', VRel β v v' → v' = v) {w : World} (hw : NG ≤ w.heap.size)
    (he : (callFunc f args.toArray).run P w = .ok (.enter f args.toArray) w) :
    Calls P f args.toArray w fun e w' => e = .returned v ∧ Below w.heap.size w w' := by
  rcases hc w.heap.size β0 w args (HRel.begin hw) (ha _) with ⟨_, h2⟩ | ⟨v', w', β', h1, _⟩
  · refine h2.mono ?_
    rintro e w' ⟨v', β', rfl, h3, h4⟩
    rw [hv _ _ h3]
    exact ⟨rfl, h4.below⟩
  · rw [he] at h1; cases h1

/-- What was ours is as it was. -/
theorem HRel.later {B0 : Nat} {β : Ren} {h : H} {w w' : World} (hr : HRel B0 β h w) (hb : Below w.heap.size w w') : HRel B0 β h w' := by
  have hp := hr.glob
  have hk : ∀ k, k < w.heap.size → w'.heap[k]? = w.heap[k]? := fun k hk => hb.block k hk
  have hs := hb.size
  refine ⟨?_, hr.mine, hr.apart, hr.fresh, ?_, hr.frg, ?_, hr.gl⟩
  · intro b o p ho hp'
    have := hr.obj b o p ho hp'
    exact this.mono (Ren.le_refl _) (hk _ (hp b p hp'))
  · intro g p hp'; have := hp g p hp'; omega
  · have := hr.size; omega

end
end Go.Abs
