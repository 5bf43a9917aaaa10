import Derived.Test.YtajobphlclafdaaGreatDoorEngJ
set_option linter.unusedVariables false
set_option linter.unusedSimpArgs false
/-! Regions that draw their order: what is asked of one, by text alone. -/
namespace Go.Abs
open Go.RowKit (Below)

def AOp.opnds : AOp → List Operand
  | .move x | .box _ x | .load1 x | .loadN _ x | .nilCheck x | .un _ x | .convInt _ x | .shift _ x | .field1 _ x | .fieldN _ _ x | .rangeStr x | .nextStr x | .extract x _ | .len _ x => [x]
  | .pick a b c => [a, b, c]
  | .alloc _ _ | .bad => []
  | .build _ _ ps | .buildSl _ _ _ _ ps => ps.map (·.2)
  | .store _ a x | .bin _ a x | .eq _ _ a x | .idxAddr _ a x | .idxStr a x | .append _ _ _ a x | .copy _ a x | .minmax _ a x | .makeSl _ _ _ _ a x | .idxArr _ _ a x => [a, x]
  | .makeFunc _ f c => f ++ c
  | .cutStr x a b | .cutSl _ x a b => x :: (a.toList ++ b.toList)
  | .call f as => f :: as

theorem map_congr_parts {ρ ρ' : Operand → Value} : ∀ {ps : List (Nat × Operand)}, (∀ x ∈ ps.map (·.2), ρ x = ρ' x) → ps.map (fun p => (p.1, ρ p.2)) = ps.map (fun p => (p.1, ρ' p.2))
  | [], _ => rfl
  | (i, x) :: ps, h => by
    simp only [List.map_cons]
    rw [h x (by simp), map_congr_parts fun y hy => h y (by simp at hy ⊢; exact .inr hy)]

theorem opA_congr {ρ ρ' : Operand → Value} {h : H} : ∀ (o : AOp), (∀ x ∈ o.opnds, ρ x = ρ' x) → opA ρ h o = opA ρ' h o := by
  intro o hx
  have hopt : ∀ {a : Option Operand}, (∀ x ∈ a.toList, ρ x = ρ' x) → a.map ρ = a.map ρ' := by
    intro a ha
    cases a with
    | none => rfl
    | some y => simp [ha y (by simp)]
  have hlist : ∀ {l : List Operand}, (∀ x ∈ l, ρ x = ρ' x) → l.map ρ = l.map ρ' := fun ha => List.map_congr_left ha
  cases o <;> simp only [AOp.opnds, List.mem_cons, List.not_mem_nil, or_false, List.mem_append, forall_eq, or_imp, forall_and] at hx <;> simp only [opA]
  case build pl zs ps => rw [map_congr_parts hx]
  case buildSl e a b zs ps => rw [map_congr_parts hx]
  case makeFunc fn f c => rw [hlist hx.1, hlist hx.2]
  case cutStr x a b => rw [hx.1, hopt hx.2.1, hopt hx.2.2]
  case cutSl n x a b => rw [hx.1, hopt hx.2.1, hopt hx.2.2]
  case pick a b c => rw [hx.1, hx.2.1, hx.2.2]
  all_goals first
    | rfl
    | rw [hx]
    | rw [hx.1, hx.2]

inductive Cls where
  | pure | read | alloc | eff
  deriving DecidableEq

def AOp.cls : AOp → Cls
  | .load1 _ | .loadN _ _ | .len _ _ => .read
  | .alloc _ _ | .box _ _ | .buildSl .. | .rangeStr _ | .makeSl .. => .alloc
  | .store .. | .nextStr _ | .append .. | .copy .. | .call .. | .bad => .eff
  | _ => .pure

/-- What changes nothing is told by what it reads: in any heap. -/
theorem pure_any {ρ : Operand → Value} {h h' : H} {o : AOp} {v : Value} (hc : o.cls = .pure) (hv : opA ρ h o = some (v, h')) : h' = h ∧ ∀ g, opA ρ g o = some (v, g) := by
  have key : ∀ {x : Option Value}, pureO h x = some (v, h') → h' = h ∧ ∀ g, pureO g x = some (v, g) := by
    intro x hx
    obtain ⟨rfl, rfl⟩ := pureO_some hx
    exact ⟨rfl, fun g => rfl⟩
  cases o <;> first | (cases hc; done) | skip
  all_goals simp only [opA] at hv ⊢
  case move x => cases hv; exact ⟨rfl, fun _ => rfl⟩
  case pick a b c =>
    split at hv
    · cases hv; exact ⟨rfl, fun _ => rfl⟩
    · cases hv
  case makeFunc fn f c => cases hv; exact ⟨rfl, fun _ => rfl⟩
  case eq n k x y =>
    split at hv
    · rename_i hf; simp only [hf, if_true]; exact key hv
    · cases hv
  all_goals exact key hv

theorem read_same {ρ : Operand → Value} {h h' : H} {o : AOp} {v : Value} (hc : o.cls = .read) (hv : opA ρ h o = some (v, h')) : h' = h := by
  cases o <;> first | (cases hc; done) | skip
  all_goals simp only [opA] at hv
  case len k x =>
    split at hv
    · exact (pureO_some hv).2
    · cases hv
  all_goals exact (pureO_some hv).2

/-! ### the order that the edges lay down -/

/-- j must come ahead of i. -/
inductive Reach (ops : Array Oper) : Nat → Nat → Prop
  | edge {i j : Nat} {o : Oper} {e : Edge} (h : ops[i]? = some o) (he : e ∈ o.after) (hb : Region.binds .any e = true) (hj : e.on = j) : Reach ops j i
  | step {i k j : Nat} {o : Oper} {e : Edge} (h : ops[i]? = some o) (he : e ∈ o.after) (hb : Region.binds .any e = true) (hk : e.on = k) (t : Reach ops j k) : Reach ops j i

/-- One row of the order's table, out of the rows ahead of it. -/
def mrow (ms : List Nat) (i : Nat) : List Edge → Nat
  | [] => 0
  | e :: l => if Region.binds .any e then (2 ^ e.on ||| (if e.on < i then ms.getD e.on 0 else 0)) ||| mrow ms i l else mrow ms i l

def mtab : List Oper → List Nat → List Nat
  | [], ms => ms
  | o :: l, ms => mtab l (ms ++ [mrow ms ms.length o.after.toList])

theorem mrow_bit {ms : List Nat} {i j : Nat} : ∀ {l : List Edge}, (mrow ms i l).testBit j = true → ∃ e ∈ l, Region.binds .any e = true ∧ (e.on = j ∨ e.on < i ∧ (ms.getD e.on 0).testBit j = true)
  | [], h => by simp [mrow] at h
  | e :: l, h => by
    simp only [mrow] at h
    split at h
    · rename_i hb
      simp only [Nat.testBit_or, Bool.or_eq_true] at h
      rcases h with (h | h) | h
      · rw [Nat.testBit_two_pow] at h
        exact ⟨e, by simp, hb, .inl (of_decide_eq_true h)⟩
      · split at h
        · rename_i hlt; exact ⟨e, by simp, hb, .inr ⟨hlt, h⟩⟩
        · simp at h
      · obtain ⟨e', h1, h2⟩ := mrow_bit h
        exact ⟨e', by simp [h1], h2⟩
    · obtain ⟨e', h1, h2⟩ := mrow_bit h
      exact ⟨e', by simp [h1], h2⟩

theorem mtab_prefix : ∀ (l : List Oper) (ms : List Nat) (k : Nat), k < ms.length → (mtab l ms)[k]? = ms[k]?
  | [], _, _, _ => rfl
  | o :: l, ms, k, h => by
    simp only [mtab]
    rw [mtab_prefix l _ k (by simp; omega), List.getElem?_append_left h]

theorem mtab_row : ∀ (l : List Oper) (ms : List Nat) (k : Nat) (o : Oper), l[k]? = some o → (mtab l ms)[ms.length + k]? = some (mrow ((mtab l ms)) (ms.length + k) o.after.toList)
  | [], _, _, _, h => by simp at h
  | o :: l, ms, 0, o', h => by
    simp at h; subst h
    simp only [mtab, Nat.add_zero]
    rw [mtab_prefix l _ ms.length (by simp), List.getElem?_append_right (by omega)]
    simp only [Nat.sub_self, List.getElem?_cons_zero]
    congr 1
    have hagree : ∀ q, q < ms.length → (mtab l (ms ++ [mrow ms ms.length o.after.toList])).getD q 0 = ms.getD q 0 := by
      intro q hq
      rw [List.getD_eq_getElem?_getD, List.getD_eq_getElem?_getD, mtab_prefix l _ q (by simp; omega), List.getElem?_append_left hq]
    generalize mtab l (ms ++ [mrow ms ms.length o.after.toList]) = big at hagree
    generalize o.after.toList = es
    induction es with
    | nil => rfl
    | cons e es ih =>
      simp only [mrow]
      split
      · rw [ih]
        congr 1; congr 1
        split
        · rename_i hlt; rw [hagree _ hlt]
        · rfl
      · exact ih
  | o :: l, ms, k + 1, o', h => by
    simp only [mtab]
    have := mtab_row l (ms ++ [mrow ms ms.length o.after.toList]) k o' (by simpa using h)
    simp only [List.length_append, List.length_cons, List.length_nil] at this
    rw [show ms.length + (k + 1) = ms.length + (0 + 1) + k by omega]
    exact this

/-- The table of an array of operations: bit j of row i: j ahead of i. -/
def order (ops : Array Oper) : List Nat := mtab ops.toList []

theorem order_reach (ops : Array Oper) : ∀ (i j : Nat), ((order ops).getD i 0).testBit j = true → Reach ops j i := by
  intro i
  induction i using Nat.strongRecOn with
  | _ i ih =>
    intro j h
    cases ho : ops.toList[i]? with
    | none =>
      have hlen : ∀ (l : List Oper) (ms : List Nat), (mtab l ms).length = ms.length + l.length := by
        intro l
        induction l with
        | nil => intro ms; rfl
        | cons o l ih => intro ms; simp only [mtab]; rw [ih]; simp; omega
      have : (order ops)[i]? = none := by
        rw [List.getElem?_eq_none]
        unfold order; rw [hlen]; simpa using ho
      rw [List.getD_eq_getElem?_getD, this] at h
      simp at h
    | some o =>
      have hrow := mtab_row ops.toList [] i o ho
      simp only [List.length_nil, Nat.zero_add] at hrow
      rw [List.getD_eq_getElem?_getD, show order ops = mtab ops.toList [] from rfl, hrow] at h
      simp only [Option.getD_some] at h
      obtain ⟨e, he, hb, hj | ⟨hlt, hj⟩⟩ := mrow_bit h
      · exact .edge (by simpa using ho) (by simpa using he) hb hj
      · exact .step (by simpa using ho) (by simpa using he) hb rfl (ih e.on hlt j hj)

/-- What has come up, seen as a set, goes on downward. -/
theorem Reach.mem {ops : Array Oper} {S : Nat → Prop} (hS : ∀ i o e, S i → ops[i]? = some o → e ∈ o.after → Region.binds .any e = true → S e.on) {i j : Nat} (h : Reach ops j i) :
    (∀ o e, ops[i]? = some o → e ∈ o.after → Region.binds .any e = true → S e.on) → S j := by
  induction h with
  | edge h he hb hj => intro hi; rw [← hj]; exact hi _ _ h he hb
  | step h he hb hk t ih =>
    intro hi
    have hk' := hi _ _ h he hb
    rw [hk] at hk'
    exact ih fun o e ho he' hb' => hS _ o e hk' ho he' hb'

end Go.Abs
