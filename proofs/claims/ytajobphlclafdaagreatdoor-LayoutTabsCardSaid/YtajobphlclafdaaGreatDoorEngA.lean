import Derived.Calls
import Derived.Orders
import Derived.Below
set_option linter.unusedVariables false
set_option linter.unusedSimpArgs false
/-! The abstract machine's values, heap, and how they stand to the model's worlds. -/
namespace Go.Abs
open Go.RowKit (Below)

/-- Where an abstract block lies: block, first cell, number of cells that belong to it. -/
structure Place where
  blk : Nat
  base : Nat
  ext : Nat

abbrev Ren := Nat → Option Place

/-- What stands in the place of an operation that was passed by. -/
def skipv : Value := .float .f32 0

/-- An abstract value (left) and the model's (right). What is undefined on the left says nothing. An abstract slice bears the cells of an element in the place of a capacity. -/
inductive VRel (β : Ren) : Value → Value → Prop
  | undef (v : Value) : VRel β undef v
  | skip : VRel β (.float .f32 0) Go.undef
  | bool (b : Bool) : VRel β (.bool b) (.bool b)
  | int (k : IntKind) (n : Int) : VRel β (.int k n) (.int k n)
  | string (s : ByteArray) : VRel β (.string s) (.string s)
  | nilptr : VRel β (.pointer none) (.pointer none)
  | ptr {b o : Nat} {p : Place} (h : β b = some p) : VRel β (.pointer (some ⟨b, o, none⟩)) (.pointer (some ⟨p.blk, p.base + o, none⟩))
  | nilslice : VRel β (.slice none 0 0) (.slice none 0 0)
  | slice {b o len e : Nat} {p : Place} (cc : Nat) (h : β b = some p) (hl : len ≤ cc) (he : o + cc * e = p.ext) :
      VRel β (.slice (some ⟨b, o, none⟩) len e) (.slice (some ⟨p.blk, p.base + o, none⟩) len cc)
  | slice0 {b o e : Nat} {p : Place} (a : Addr) (h : β b = some p) (ho : o = p.ext) : VRel β (.slice (some ⟨b, o, none⟩) 0 e) (.slice (some a) 0 0)
  | nilmap : VRel β (.map none) (.map none)
  | map {b : Nat} {p : Place} (h : β b = some p) : VRel β (.map (some b)) (.map (some p.blk))
  | func (fn : Fn) (f f' c c' : Array Value) (hf : f.size = f'.size) (hc : c.size = c'.size)
      (rf : ∀ i (h : i < f.size) (h' : i < f'.size), VRel β f[i] f'[i]) (rc : ∀ i (h : i < c.size) (h' : i < c'.size), VRel β c[i] c'[i]) :
      VRel β (.func fn f c) (.func fn f' c')
  | nilFunc : VRel β .nilFunc .nilFunc
  | iface (t : TypeId) {v v' : Value} (h : VRel β v v') : VRel β (.iface t v) (.iface t v')
  | nilIface : VRel β .nilIface .nilIface
  | agg (c c' : Array Value) (hc : c.size = c'.size) (rc : ∀ i (h : i < c.size) (h' : i < c'.size), VRel β c[i] c'[i]) : VRel β (.agg c) (.agg c')
  | tuple (c c' : Array Value) (hc : c.size = c'.size) (rc : ∀ i (h : i < c.size) (h' : i < c'.size), VRel β c[i] c'[i]) : VRel β (.tuple c) (.tuple c')

/-- One renaming goes on where another stands. -/
def Ren.le (β β' : Ren) : Prop := ∀ b p, β b = some p → β' b = some p
theorem Ren.le_refl (β : Ren) : β.le β := fun _ _ h => h
theorem Ren.le_trans {a b c : Ren} (h : a.le b) (k : b.le c) : a.le c := fun _ _ e => k _ _ (h _ _ e)

theorem VRel.mono {β β' : Ren} (hβ : β.le β') {v v' : Value} (h : VRel β v v') : VRel β' v v' := by
  induction h with
  | undef v => exact .undef v
  | skip => exact .skip
  | bool b => exact .bool b
  | int k n => exact .int k n
  | string s => exact .string s
  | nilptr => exact .nilptr
  | ptr h => exact .ptr (hβ _ _ h)
  | nilslice => exact .nilslice
  | slice cc h hl he => exact .slice cc (hβ _ _ h) hl he
  | slice0 a h ho => exact .slice0 a (hβ _ _ h) ho
  | nilmap => exact .nilmap
  | map h => exact .map (hβ _ _ h)
  | func fn f f' c c' hf hc _ _ ihf ihc => exact .func fn f f' c c' hf hc ihf ihc
  | nilFunc => exact .nilFunc
  | iface t _ ih => exact .iface t ih
  | nilIface => exact .nilIface
  | agg c c' hc _ ih => exact .agg c c' hc ih
  | tuple c c' hc _ ih => exact .tuple c c' hc ih

/-- Lists of values, side by side. -/
inductive LRel (β : Ren) : List Value → List Value → Prop
  | nil : LRel β [] []
  | cons {v v' : Value} {l l' : List Value} (h : VRel β v v') (t : LRel β l l') : LRel β (v :: l) (v' :: l')

theorem LRel.mono {β β' : Ren} (hβ : β.le β') {l l' : List Value} (h : LRel β l l') : LRel β' l l' := by
  induction h with
  | nil => exact .nil
  | cons h _ ih => exact .cons (h.mono hβ) ih

theorem LRel.length {β : Ren} {l l' : List Value} (h : LRel β l l') : l.length = l'.length := by
  induction h with
  | nil => rfl
  | cons _ _ ih => simp [ih]

theorem LRel.get {β : Ren} {l l' : List Value} (h : LRel β l l') : ∀ {i : Nat} {v : Value}, l[i]? = some v → ∃ v', l'[i]? = some v' ∧ VRel β v v' := by
  induction h with
  | nil => intro i v h; simp at h
  | cons h _ ih =>
    intro i v hi
    cases i with
    | zero => simp at hi; subst hi; exact ⟨_, rfl, h⟩
    | succ i => simp at hi; simpa using ih hi

theorem LRel.of_get {β : Ren} : ∀ {l l' : List Value}, l.length = l'.length → (∀ (i : Nat) v v', l[i]? = some v → l'[i]? = some v' → VRel β v v') → LRel β l l'
  | [], [], _, _ => .nil
  | [], _ :: _, h, _ => by simp at h
  | _ :: _, [], h, _ => by simp at h
  | v :: l, v' :: l', h, k => .cons (k 0 v v' rfl rfl) (of_get (by simpa using h) fun i x x' hx hx' => k (i + 1) x x' (by simpa using hx) (by simpa using hx'))

theorem LRel.append {β : Ren} {a a' b b' : List Value} (h : LRel β a a') (k : LRel β b b') : LRel β (a ++ b) (a' ++ b') := by
  induction h with
  | nil => exact k
  | cons h _ ih => exact .cons h ih

theorem LRel.take {β : Ren} {a a' : List Value} (h : LRel β a a') (n : Nat) : LRel β (a.take n) (a'.take n) := by
  induction h generalizing n with
  | nil => simp; exact .nil
  | cons h _ ih => cases n with
    | zero => simp; exact .nil
    | succ n => simp; exact .cons h (ih n)

theorem LRel.drop {β : Ren} {a a' : List Value} (h : LRel β a a') (n : Nat) : LRel β (a.drop n) (a'.drop n) := by
  induction h generalizing n with
  | nil => simp; exact .nil
  | cons h t ih => cases n with
    | zero => exact .cons h t
    | succ n => simpa using ih n

theorem LRel.set {β : Ren} {a a' : List Value} (h : LRel β a a') (n : Nat) {v v' : Value} (hv : VRel β v v') : LRel β (a.set n v) (a'.set n v') := by
  induction h generalizing n with
  | nil => simp; exact .nil
  | cons h t ih => cases n with
    | zero => simp; exact .cons hv t
    | succ n => simp; exact .cons h (ih n)

theorem VRel.agg_iff {β : Ren} {c c' : Array Value} : LRel β c.toList c'.toList → VRel β (.agg c) (.agg c') := fun h =>
  .agg c c' (by simpa using h.length) fun i hi hi' => by
    obtain ⟨v', h1, h2⟩ := h.get (i := i) (v := c[i]) (by simp [hi])
    rw [Array.getElem?_toList, Array.getElem?_eq_getElem hi'] at h1; cases h1; exact h2
theorem VRel.tuple_of {β : Ren} {c c' : Array Value} : LRel β c.toList c'.toList → VRel β (.tuple c) (.tuple c') := fun h =>
  .tuple c c' (by simpa using h.length) fun i hi hi' => by
    obtain ⟨v', h1, h2⟩ := h.get (i := i) (v := c[i]) (by simp [hi])
    rw [Array.getElem?_toList, Array.getElem?_eq_getElem hi'] at h1; cases h1; exact h2

theorem LRel.of_arrays {β : Ren} {c c' : Array Value} (hc : c.size = c'.size) (rc : ∀ i (h : i < c.size) (h' : i < c'.size), VRel β c[i] c'[i]) : LRel β c.toList c'.toList :=
  LRel.of_get (by simpa using hc) fun i v v' h h' => by
    rw [Array.getElem?_toList, Array.getElem?_eq_some_iff] at h h'
    obtain ⟨h1, rfl⟩ := h; obtain ⟨h2, rfl⟩ := h'
    exact rc i h1 h2

theorem VRel.of_agg {β : Ren} {c : Array Value} {v : Value} (h : VRel β (.agg c) v) : ∃ c', v = .agg c' ∧ LRel β c.toList c'.toList := by
  cases h with
  | agg _ c' hc rc => exact ⟨c', rfl, LRel.of_arrays hc rc⟩
theorem VRel.of_tuple {β : Ren} {c : Array Value} {v : Value} (h0 : 0 < c.size) (h : VRel β (.tuple c) v) : ∃ c', v = .tuple c' ∧ LRel β c.toList c'.toList := by
  generalize hx : Value.tuple c = x at h
  cases h with
  | undef => simp only [Go.undef, Value.tuple.injEq] at hx; subst hx; exact absurd h0 (by simp)
  | tuple c₀ c' hc rc => cases hx; exact ⟨c', rfl, LRel.of_arrays hc rc⟩
  | _ => cases hx
theorem VRel.of_func {β : Ren} {fn : Fn} {f c : Array Value} {v : Value} (h : VRel β (.func fn f c) v) : ∃ f' c', v = .func fn f' c' ∧ LRel β f.toList f'.toList ∧ LRel β c.toList c'.toList := by
  cases h with
  | func _ _ f' _ c' hf hc rf rc => exact ⟨f', c', rfl, LRel.of_arrays hf rf, LRel.of_arrays hc rc⟩
theorem VRel.of_int {β : Ren} {k : IntKind} {n : Int} {v : Value} (h : VRel β (.int k n) v) : v = .int k n := by cases h; rfl
theorem VRel.of_bool {β : Ren} {b : Bool} {v : Value} (h : VRel β (.bool b) v) : v = .bool b := by cases h; rfl
theorem VRel.of_string {β : Ren} {s : ByteArray} {v : Value} (h : VRel β (.string s) v) : v = .string s := by cases h; rfl
theorem VRel.of_ptr {β : Ren} {b o : Nat} {v : Value} (h : VRel β (.pointer (some ⟨b, o, none⟩)) v) : ∃ p, β b = some p ∧ v = .pointer (some ⟨p.blk, p.base + o, none⟩) := by
  cases h with | ptr h => exact ⟨_, h, rfl⟩
theorem VRel.of_map {β : Ren} {b : Nat} {v : Value} (h : VRel β (.map (some b)) v) : ∃ p, β b = some p ∧ v = .map (some p.blk) := by
  cases h with | map h => exact ⟨_, h, rfl⟩

/-- Values that hold no address: they stand for themselves. -/
def flat : Value → Bool
  | .bool _ | .int .. | .string _ | .pointer none | .slice none 0 0 | .map none | .nilFunc | .nilIface => true
  | .func _ f c => f.isEmpty && c.isEmpty
  | .agg c => c.all fun v => match v with
    | .bool _ | .int .. | .string _ | .pointer none | .slice none 0 0 | .map none | .nilFunc | .nilIface => true
    | _ => false
  | .tuple c => c.isEmpty
  | _ => false
def flat1 : Value → Bool
  | .bool _ | .int .. | .string _ | .pointer none | .slice none 0 0 | .map none | .nilFunc | .nilIface => true
  | _ => false
theorem VRel.of_flat1 {β : Ren} {v : Value} (h : flat1 v = true) : VRel β v v := by
  unfold flat1 at h
  split at h <;> first | constructor | (simp at h)
theorem VRel.of_flat {β : Ren} {v : Value} (h : flat v = true) : VRel β v v := by
  unfold flat at h
  split at h
  case h_10 c =>
    refine .agg c c rfl fun i hi hi' => VRel.of_flat1 ?_
    have := (Array.all_eq_true.1 h) i hi
    exact this
  case h_9 fn f c =>
    simp only [Bool.and_eq_true, Array.isEmpty_iff] at h
    obtain ⟨rfl, rfl⟩ := h
    exact .func fn _ _ _ _ rfl rfl (fun i hi => by simp at hi) (fun i hi => by simp at hi)
  case h_11 c =>
    simp only [Array.isEmpty_iff] at h; subst h; exact .undef _
  all_goals first | constructor | (simp at h)

end Go.Abs
