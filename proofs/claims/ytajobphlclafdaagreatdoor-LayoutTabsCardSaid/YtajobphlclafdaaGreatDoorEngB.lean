import Derived.Test.YtajobphlclafdaaGreatDoorEngA
import Derived.Laws.Cells
import Derived.Laws.World
set_option linter.unusedVariables false
set_option linter.unusedSimpArgs false
/-! The abstract heap, and how it stands to a world. -/
namespace Go.Abs
open Go.RowKit (Below)

/-- own: nobody else's, may be written; var: so, and it is a whole block of the world; frz: its own cells may not be written (a string shares them), what lies behind them may; frg: not ours, read alone. -/
inductive Mode where
  | own | var | frz | frg
  deriving DecidableEq

inductive AObj where
  | cells (c : List Value) (e : TypeId) (m : Mode)
  | map (es : List (Value × Value))
  | siter (s : ByteArray) (pos : Nat)
  | dead

inductive Tr where
  | nil
  | node (v : Option AObj) (l r : Tr)

def Tr.get : Tr → Nat → Option AObj
  | .nil, _ => none
  | .node v l r, n => if n = 0 then v else if n % 2 = 1 then l.get (n / 2) else r.get (n / 2 - 1)

def Tr.val : Tr → Option AObj
  | .nil => none
  | .node v _ _ => v
def Tr.left : Tr → Tr
  | .nil => .nil
  | .node _ l _ => l
def Tr.right : Tr → Tr
  | .nil => .nil
  | .node _ _ r => r

def Tr.setF : Nat → Tr → Nat → AObj → Tr
  | 0, t, _, o => .node (some o) t.left t.right
  | f + 1, t, n, o =>
    if n = 0 then .node (some o) t.left t.right
    else if n % 2 = 1 then .node t.val (setF f t.left (n / 2) o) t.right
    else .node t.val t.left (setF f t.right (n / 2 - 1) o)

theorem Tr.get_eq (t : Tr) (n : Nat) : t.get n = if n = 0 then t.val else if n % 2 = 1 then t.left.get (n / 2) else t.right.get (n / 2 - 1) := by
  cases t with
  | nil => simp [Tr.get, Tr.val, Tr.left, Tr.right]
  | node v l r => simp [Tr.get, Tr.val, Tr.left, Tr.right]

theorem Tr.get_setF (o : AObj) : ∀ (f n : Nat) (t : Tr), n ≤ f → ∀ m, (Tr.setF f t n o).get m = if m = n then some o else t.get m := by
  intro f
  induction f with
  | zero =>
    intro n t hn m
    obtain rfl : n = 0 := by omega
    simp only [Tr.setF, Tr.get]
    by_cases hm : m = 0
    · simp [hm]
    · rw [if_neg hm, if_neg hm, Tr.get_eq t m, if_neg hm]
  | succ f ih =>
    intro n t hn m
    simp only [Tr.setF]
    by_cases h0 : n = 0
    · subst h0
      rw [if_pos rfl]
      simp only [Tr.get]
      by_cases hm : m = 0
      · simp [hm]
      · rw [if_neg hm, if_neg hm, Tr.get_eq t m, if_neg hm]
    · rw [if_neg h0]
      by_cases h1 : n % 2 = 1
      · rw [if_pos h1]
        simp only [Tr.get]
        rw [Tr.get_eq t m]
        by_cases hm : m = 0
        · rw [if_pos hm, if_neg (by omega), if_pos hm]
        · rw [if_neg hm, if_neg hm]
          by_cases hm1 : m % 2 = 1
          · rw [if_pos hm1, if_pos hm1, ih (n / 2) t.left (by omega)]
            by_cases e : m / 2 = n / 2
            · rw [if_pos e, if_pos (by omega)]
            · rw [if_neg e, if_neg (by omega)]
          · rw [if_neg hm1, if_neg hm1, if_neg (by omega)]
      · rw [if_neg h1]
        simp only [Tr.get]
        rw [Tr.get_eq t m]
        by_cases hm : m = 0
        · rw [if_pos hm, if_neg (by omega), if_pos hm]
        · rw [if_neg hm, if_neg hm]
          by_cases hm1 : m % 2 = 1
          · rw [if_pos hm1, if_pos hm1, if_neg (by omega)]
          · rw [if_neg hm1, if_neg hm1, ih (n / 2 - 1) t.right (by omega)]
            by_cases e : m / 2 - 1 = n / 2 - 1
            · rw [if_pos e, if_pos (by omega)]
            · rw [if_neg e, if_neg (by omega)]

structure H where
  next : Nat
  tr : Tr

def H.get (h : H) (b : Nat) : Option AObj := h.tr.get b
def H.set (h : H) (b : Nat) (o : AObj) : H := ⟨h.next, Tr.setF b h.tr b o⟩
def H.new (h : H) (o : AObj) : H := ⟨h.next + 1, Tr.setF h.next h.tr h.next o⟩

theorem H.get_set (h : H) (b : Nat) (o : AObj) (m : Nat) : (h.set b o).get m = if m = b then some o else h.get m := Tr.get_setF o b b h.tr (Nat.le_refl _) m
theorem H.get_new (h : H) (o : AObj) (m : Nat) : (h.new o).get m = if m = h.next then some o else h.get m := Tr.get_setF o _ _ h.tr (Nat.le_refl _) m
@[simp] theorem H.next_set (h : H) (b : Nat) (o : AObj) : (h.set b o).next = h.next := rfl
@[simp] theorem H.next_new (h : H) (o : AObj) : (h.new o).next = h.next + 1 := rfl

/-- Entries of a map, side by side: keys hold no addresses and are the same. -/
inductive ERel (β : Ren) : List (Value × Value) → List MapEntry → Prop
  | nil : ERel β [] []
  | cons {k v v' : Value} {n : Nat} {l : List (Value × Value)} {l' : List MapEntry} (hk : flat k = true) (h : VRel β v v') (t : ERel β l l') : ERel β ((k, v) :: l) (⟨k, v', n⟩ :: l')

theorem ERel.mono {β β' : Ren} (hβ : β.le β') {l : List (Value × Value)} {l' : List MapEntry} (h : ERel β l l') : ERel β' l l' := by
  induction h with
  | nil => exact .nil
  | cons hk h _ ih => exact .cons hk (h.mono hβ) ih

/-- How many package-level variables stand at the heap's beginning (each under its own number). -/
def NG : Nat := 3

/-- What a block holds. -/
def ORel (β : Ren) (w : World) (p : Place) : AObj → Prop
  | .cells c e m => ∃ arr t fz, w.heap[p.blk]? = some (.cells arr t fz) ∧ p.base + p.ext ≤ arr.size ∧ LRel β c ((arr.toList.drop p.base).take c.length) ∧ c.length ≤ p.ext ∧
      (m ≠ .frg → t = e) ∧ (m = .own ∨ m = .var → fz = (0, 0)) ∧ (m = .frz → fz.2 ≤ p.base + c.length) ∧
      (m = .var → p.base = 0 ∧ arr.size = c.length)
  | .map es => ∃ entries clock es', w.heap[p.blk]? = some (.map entries clock) ∧ es.Perm es' ∧ ERel β es' entries.toList
  | .siter s pos => p.base = 0 ∧ w.heap[p.blk]? = some (.stringIter s pos)
  | .dead => True

def AObj.mine : AObj → Bool
  | .cells _ _ .frg => false
  | .dead => false
  | _ => true

/-- The abstract heap h stands for the world w by the renaming β; blocks below B0 are not ours. -/
structure HRel (B0 : Nat) (β : Ren) (h : H) (w : World) : Prop where
  obj : ∀ b o p, h.get b = some o → β b = some p → ORel β w p o
  mine : ∀ b o p, h.get b = some o → β b = some p → o.mine = true → B0 ≤ p.blk
  apart : ∀ b b' o o' p p', h.get b = some o → h.get b' = some o' → β b = some p → β b' = some p' → o.mine = true → o'.mine = true → p.blk = p'.blk → b = b'
  fresh : ∀ b, h.next ≤ b → β b = none ∧ h.get b = none
  glob : ∀ g p, β g = some p → p.blk < w.heap.size
  frg : ∀ b c e p, h.get b = some (.cells c e .frg) → β b = some p → p.blk < B0
  size : B0 ≤ w.heap.size
  gl : ∀ g, g < NG → ∃ e, β g = some ⟨g, 0, e⟩

/-- What an operation or a call does, seen from outside. -/
structure Go1 (B0 : Nat) (β : Ren) (h : H) (w : World) (β' : Ren) (h' : H) (w' : World) : Prop where
  rel : HRel B0 β' h' w'
  old : ∀ b, b < h.next → β' b = β b
  next : h.next ≤ h'.next
  kept : ∀ b, b < h.next → β b = none → h'.get b = h.get b
  below : Below B0 w w'

theorem Go1.le {B0 : Nat} {β β' : Ren} {h h' : H} {w w' : World} (hr : HRel B0 β h w) (g : Go1 B0 β h w β' h' w') : β.le β' := fun b p e => by
  rw [g.old b ?_]; exact e
  rcases Nat.lt_or_ge b h.next with hb | hb
  · exact hb
  · rw [(hr.fresh b hb).1] at e; cases e

theorem Go1.refl {B0 : Nat} {β : Ren} {h : H} {w : World} (hr : HRel B0 β h w) : Go1 B0 β h w β h w := ⟨hr, fun _ _ => rfl, Nat.le_refl _, fun _ _ _ => rfl, Below.refl _ _⟩

theorem Go1.trans {B0 : Nat} {β β' β'' : Ren} {h h' h'' : H} {w w' w'' : World} (a : Go1 B0 β h w β' h' w') (b : Go1 B0 β' h' w' β'' h'' w'') : Go1 B0 β h w β'' h'' w'' :=
  ⟨b.rel, fun i hi => (b.old i (Nat.lt_of_lt_of_le hi a.next)).trans (a.old i hi), Nat.le_trans a.next b.next,
   fun i hi hn => (b.kept i (Nat.lt_of_lt_of_le hi a.next) ((a.old i hi).trans hn)).trans (a.kept i hi hn), a.below.trans b.below⟩

theorem ORel.mono {β β' : Ren} (hβ : β.le β') {w w' : World} {p : Place} (hw : w'.heap[p.blk]? = w.heap[p.blk]?) {o : AObj} (h : ORel β w p o) : ORel β' w' p o := by
  cases o with
  | cells c e m =>
    obtain ⟨arr, t, fz, h1, h2, h3, h4⟩ := h
    exact ⟨arr, t, fz, by rw [hw]; exact h1, h2, h3.mono hβ, h4⟩
  | map es =>
    obtain ⟨en, ck, es', h1, h2, h3⟩ := h
    exact ⟨en, ck, es', by rw [hw]; exact h1, h2, h3.mono hβ⟩
  | siter s pos => exact ⟨h.1, hw.trans h.2⟩
  | dead => trivial

/-- A draw alone. -/
theorem HRel.drew {B0 : Nat} {β : Ren} {h : H} {w : World} (hr : HRel B0 β h w) : HRel B0 β h w.drew :=
  ⟨fun b o p hb hp => (hr.obj b o p hb hp).mono (Ren.le_refl _) rfl, hr.mine, hr.apart, hr.fresh, hr.glob, hr.frg, hr.size, hr.gl⟩
theorem Go1.drew {B0 : Nat} {β : Ren} {h : H} {w : World} (hr : HRel B0 β h w) : Go1 B0 β h w β h w.drew := ⟨hr.drew, fun _ _ => rfl, Nat.le_refl _, fun _ _ _ => rfl, (Below.refl _ _).drew⟩

/-- The renaming with one block more. -/
def Ren.put (β : Ren) (b : Nat) (p : Place) : Ren := fun i => if i = b then some p else β i
theorem Ren.put_same (β : Ren) (b : Nat) (p : Place) : (β.put b p) b = some p := if_pos rfl
theorem Ren.put_other (β : Ren) {b i : Nat} (p : Place) (h : i ≠ b) : (β.put b p) i = β i := if_neg h

/-- A new block: the world has one more. (o': what the world holds there.) -/
theorem Go1.new {B0 : Nat} {β : Ren} {h : H} {w : World} (hr : HRel B0 β h w) (o : AObj) (o' : Obj) (ext : Nat)
    (ho : ORel (β.put h.next ⟨w.heap.size, 0, ext⟩) (w.alloc o') ⟨w.heap.size, 0, ext⟩ o) (hf : ∀ c e, o ≠ .cells c e .frg) :
    Go1 B0 β h w (β.put h.next ⟨w.heap.size, 0, ext⟩) (h.new o) (w.alloc o') := by
  have hβ : β.le (β.put h.next ⟨w.heap.size, 0, ext⟩) := fun b p e => by
    rw [Ren.put_other]; exact e
    rintro rfl; rw [(hr.fresh _ (Nat.le_refl _)).1] at e; cases e
  have hblk : ∀ {b : Nat} {p : Place}, β b = some p → b ≠ h.next := fun e => by
    rintro rfl; rw [(hr.fresh _ (Nat.le_refl _)).1] at e; cases e
  have hold : ∀ {k : Nat}, k < w.heap.size → (w.alloc o').heap[k]? = w.heap[k]? := fun hk => Below.heap_alloc _ _ _ hk
  refine ⟨⟨?_, ?_, ?_, ?_, ?_, ?_, ?_, ?_⟩, ?_, ?_, ?_, ?_⟩
  · intro b ob p hb hp
    rw [H.get_new] at hb
    by_cases e : b = h.next
    · subst e; rw [if_pos rfl] at hb; cases hb; rw [Ren.put_same] at hp; cases hp; exact ho
    · rw [if_neg e] at hb; rw [Ren.put_other _ _ e] at hp
      exact (hr.obj b ob p hb hp).mono hβ (hold (hr.glob _ _ hp))
  · intro b ob p hb hp hm
    rw [H.get_new] at hb
    by_cases e : b = h.next
    · subst e; rw [Ren.put_same] at hp; cases hp; exact hr.size
    · rw [if_neg e] at hb; rw [Ren.put_other _ _ e] at hp; exact hr.mine b ob p hb hp hm
  · intro b b' ob ob' p p' hb hb' hp hp' hm hm' he
    rw [H.get_new] at hb hb'
    by_cases e : b = h.next <;> by_cases e' : b' = h.next
    · rw [e, e']
    · subst e; rw [Ren.put_same] at hp; cases hp; rw [Ren.put_other _ _ e'] at hp'
      have := hr.glob _ _ hp'; simp only at he; omega
    · subst e'; rw [Ren.put_same] at hp'; cases hp'; rw [Ren.put_other _ _ e] at hp
      have := hr.glob _ _ hp; simp only at he; omega
    · rw [if_neg e] at hb; rw [if_neg e'] at hb'; rw [Ren.put_other _ _ e] at hp; rw [Ren.put_other _ _ e'] at hp'
      exact hr.apart b b' ob ob' p p' hb hb' hp hp' hm hm' he
  · intro b hb
    simp only [H.next_new] at hb
    rw [H.get_new, Ren.put_other _ _ (by omega), if_neg (by omega)]
    exact hr.fresh b (by omega)
  · intro g p hp
    simp only [World.size_alloc]
    by_cases e : g = h.next
    · subst e; rw [Ren.put_same] at hp; cases hp; simp
    · rw [Ren.put_other _ _ e] at hp; have := hr.glob g p hp; omega
  · intro b c e' p hb hp
    rw [H.get_new] at hb
    by_cases e : b = h.next
    · rw [if_pos e] at hb; cases hb; exact absurd rfl (hf c e')
    · rw [if_neg e] at hb; rw [Ren.put_other _ _ e] at hp; exact hr.frg b c e' p hb hp
  · have := hr.size; simp only [World.size_alloc]; omega
  · intro g hg; obtain ⟨e, he⟩ := hr.gl g hg; exact ⟨e, hβ _ _ he⟩
  · intro b hb; exact Ren.put_other _ _ (by omega)
  · simp
  · intro b hb _; rw [H.get_new, if_neg (by omega)]
  · exact (Below.refl _ _).alloc hr.size _

/-- A block of ours is changed in its place. -/
theorem Go1.set {B0 : Nat} {β : Ren} {h : H} {w w' : World} (hr : HRel B0 β h w) {b : Nat} {o o' : AObj} {p : Place} (hb : h.get b = some o) (hp : β b = some p) (hm : o.mine = true)
    (ho : ORel β w' p o') (hf : ∀ c e, o' ≠ .cells c e .frg) (hw : ∀ k, k ≠ p.blk → w'.heap[k]? = w.heap[k]?) (hs : w'.heap.size = w.heap.size) (hos : w'.os = w.os) (ht : w'.tape = w.tape) (hou : w'.output = w.output) :
    Go1 B0 β h w β (h.set b o') w' := by
  have hB := hr.mine b o p hb hp hm
  have hbn : b < h.next := by
    rcases Nat.lt_or_ge b h.next with hx | hx
    · exact hx
    · rw [(hr.fresh b hx).1] at hp; cases hp
  refine ⟨⟨?_, ?_, ?_, ?_, ?_, ?_, ?_, ?_⟩, ?_, ?_, ?_, ?_⟩
  · intro c oc q hc hq
    rw [H.get_set] at hc
    by_cases e : c = b
    · subst e; rw [if_pos rfl] at hc; cases hc; rw [hp] at hq; cases hq; exact ho
    · rw [if_neg e] at hc
      have hx := hr.obj c oc q hc hq
      by_cases hmine : oc.mine = true
      · refine hx.mono (Ren.le_refl _) (hw _ fun e2 => e (hr.apart c b oc o q p hc hb hq hp hmine hm e2))
      · cases oc with
        | dead => trivial
        | map es => simp [AObj.mine] at hmine
        | siter s ps => simp [AObj.mine] at hmine
        | cells cs e' m =>
          by_cases e2 : q.blk = p.blk
          · cases m with
            | own => simp [AObj.mine] at hmine
            | var => simp [AObj.mine] at hmine
            | frz => simp [AObj.mine] at hmine
            | frg => exact absurd (hr.frg c cs e' q hc hq) (by omega)
          · exact hx.mono (Ren.le_refl _) (hw _ e2)
  · intro c oc q hc hq hmc
    rw [H.get_set] at hc
    by_cases e : c = b
    · subst e; rw [hp] at hq; cases hq; exact hB
    · rw [if_neg e] at hc; exact hr.mine c oc q hc hq hmc
  · intro c c' oc oc' q q' hc hc' hq hq' hmc hmc' he
    rw [H.get_set] at hc hc'
    by_cases e : c = b <;> by_cases e' : c' = b
    · rw [e, e']
    · subst e; rw [if_neg e'] at hc'; rw [hp] at hq; cases hq
      exact hr.apart _ c' o oc' p q' hb hc' hp hq' hm hmc' he
    · subst e'; rw [if_neg e] at hc; rw [hp] at hq'; cases hq'
      exact hr.apart c _ oc o q p hc hb hq hp hmc hm he
    · rw [if_neg e] at hc; rw [if_neg e'] at hc'; exact hr.apart c c' oc oc' q q' hc hc' hq hq' hmc hmc' he
  · intro c hc
    rw [H.get_set, if_neg (by simp only [H.next_set] at hc; omega)]; exact hr.fresh c hc
  · intro g q hq; rw [hs]; exact hr.glob g q hq
  · intro c cs e' q hc hq
    rw [H.get_set] at hc
    by_cases e : c = b
    · rw [if_pos e] at hc; cases hc; exact absurd rfl (hf cs e')
    · rw [if_neg e] at hc; exact hr.frg c cs e' q hc hq
  · rw [hs]; exact hr.size
  · exact hr.gl
  · intro _ _; rfl
  · simp
  · intro c hc hn
    rw [H.get_set, if_neg]; rintro rfl; rw [hp] at hn; cases hn
  · exact ⟨hos, ht, hou, by omega, fun k hk => hw k (by omega)⟩

end Go.Abs
