import Derived.Test.YtajobphlclafdaaGreatDoorEngI
import Derived.LoopN
set_option linter.unusedVariables false
set_option linter.unusedSimpArgs false
/-! Code: regions in their order, branches, loops, calls. -/
namespace Go.Abs
open Go.RowKit (Below)

/-! ### temporaries -/
inductive VT where
  | nil
  | node (v : Value) (l r : VT)

def VT.val : VT → Value
  | .nil => undef
  | .node v _ _ => v
def VT.left : VT → VT
  | .nil => .nil
  | .node _ l _ => l
def VT.right : VT → VT
  | .nil => .nil
  | .node _ _ r => r
def VT.get : VT → Nat → Value
  | .nil, _ => undef
  | .node v l r, n => if n = 0 then v else if n % 2 = 1 then l.get (n / 2) else r.get (n / 2 - 1)
def VT.setF : Nat → VT → Nat → Value → VT
  | 0, t, _, o => .node o t.left t.right
  | f + 1, t, n, o =>
    if n = 0 then .node o t.left t.right
    else if n % 2 = 1 then .node t.val (setF f t.left (n / 2) o) t.right
    else .node t.val t.left (setF f t.right (n / 2 - 1) o)
def VT.set (t : VT) (n : Nat) (v : Value) : VT := VT.setF n t n v

theorem VT.get_eq (t : VT) (n : Nat) : t.get n = if n = 0 then t.val else if n % 2 = 1 then t.left.get (n / 2) else t.right.get (n / 2 - 1) := by
  cases t with
  | nil => simp [VT.get, VT.val, VT.left, VT.right]
  | node v l r => simp [VT.get, VT.val, VT.left, VT.right]

theorem VT.get_setF (o : Value) : ∀ (f n : Nat) (t : VT), n ≤ f → ∀ m, (VT.setF f t n o).get m = if m = n then o else t.get m := by
  intro f
  induction f with
  | zero =>
    intro n t hn m
    obtain rfl : n = 0 := by omega
    simp only [VT.setF, VT.get]
    by_cases hm : m = 0
    · simp [hm]
    · rw [if_neg hm, if_neg hm, VT.get_eq t m, if_neg hm]
  | succ f ih =>
    intro n t hn m
    simp only [VT.setF]
    by_cases h0 : n = 0
    · subst h0
      rw [if_pos rfl]
      simp only [VT.get]
      by_cases hm : m = 0
      · simp [hm]
      · rw [if_neg hm, if_neg hm, VT.get_eq t m, if_neg hm]
    · rw [if_neg h0]
      by_cases h1 : n % 2 = 1
      · rw [if_pos h1]
        simp only [VT.get]
        rw [VT.get_eq t m]
        by_cases hm : m = 0
        · rw [if_pos hm, if_neg (by omega), if_pos hm]
        · rw [if_neg hm, if_neg hm]
          by_cases hm1 : m % 2 = 1
          · rw [if_pos hm1, if_pos hm1, ih (n / 2) t.left (by omega)]
            by_cases e : m / 2 = n / 2
            · rw [if_pos e, if_pos (by omega)]
            · rw [if_neg e, if_neg (by omega)]
          · rw [if_neg hm1, if_neg hm1, if_neg (by omega)]
      · rw [if_neg h1]
        simp only [VT.get]
        rw [VT.get_eq t m]
        by_cases hm : m = 0
        · rw [if_pos hm, if_neg (by omega), if_pos hm]
        · rw [if_neg hm, if_neg hm]
          by_cases hm1 : m % 2 = 1
          · rw [if_pos hm1, if_pos hm1, if_neg (by omega)]
          · rw [if_neg hm1, if_neg hm1, ih (n / 2 - 1) t.right (by omega)]
            by_cases e : m / 2 - 1 = n / 2 - 1
            · rw [if_pos e, if_pos (by omega)]
            · rw [if_neg e, if_neg (by omega)]

theorem VT.get_set (t : VT) (n : Nat) (v : Value) (m : Nat) : (t.set n v).get m = if m = n then v else t.get m := VT.get_setF v n n t (Nat.le_refl _) m

def VT.keep (t : VT) : List Nat → VT
  | [] => .nil
  | k :: ks => (t.keep ks).set k (t.get k)

theorem VT.get_keep (t : VT) : ∀ (ks : List Nat) (m : Nat), (t.keep ks).get m = t.get m ∨ (t.keep ks).get m = undef
  | [], m => .inr rfl
  | k :: ks, m => by
    simp only [VT.keep, VT.get_set]
    by_cases e : m = k
    · rw [if_pos e, e]; exact .inl rfl
    · rw [if_neg e]; exact VT.get_keep t ks m

def rho (t : VT) : Operand → Value
  | .tmp i => t.get i
  | .const v => if flat v then v else undef
  | .global g => if g < NG then .pointer (some ⟨g, 0, none⟩) else undef
  | .func f => .func (.func f) #[] #[]

structure TRel (β : Ren) (n : Nat) (t : VT) (a : Act) : Prop where
  size : a.tmps.size = n
  rel : ∀ i, VRel β (t.get i) (a.tmps.getD i undef)
  defers : a.defers = []

theorem TRel.mono {β β' : Ren} (hβ : β.le β') {n : Nat} {t : VT} {a : Act} (h : TRel β n t a) : TRel β' n t a := ⟨h.size, fun i => (h.rel i).mono hβ, h.defers⟩

theorem TRel.rho {B0 : Nat} {β : Ren} {h : H} {w : World} (hr : HRel B0 β h w) {n : Nat} {t : VT} {a : Act} (ht : TRel β n t a) : ∀ x, VRel β (Abs.rho t x) (a.eval x)
  | .tmp i => ht.rel i
  | .const v => by
    simp only [Abs.rho, Act.eval]
    split
    · rename_i hf; exact VRel.of_flat hf
    · exact .undef _
  | .global g => by
    simp only [Abs.rho, Act.eval]
    split
    · rename_i hg; obtain ⟨e, he⟩ := hr.gl g hg; exact .ptr (p := ⟨g, 0, e⟩) he
    · exact .undef _
  | .func f => .func _ _ _ _ _ rfl rfl (fun i hi => by simp at hi) (fun i hi => by simp at hi)

theorem TRel.put {β : Ren} {n : Nat} {t : VT} {a : Act} (ht : TRel β n t a) {d : Nat} (hd : d < n) {v v' : Value} (hv : VRel β v v') : TRel β n (t.set d v) (a.put (some d) v') := by
  refine ⟨by simp [Act.put, ht.size], fun i => ?_, by simpa [Act.put] using ht.defers⟩
  rw [VT.get_set]
  simp only [Act.put, Array.getD_eq_getD_getElem?]
  by_cases e : i = d
  · subst e
    rw [if_pos rfl]
    simp [ht.size, hd, hv]
  · rw [if_neg e]
    rw [Array.getElem?_setIfInBounds_ne (Ne.symm e)]
    have := ht.rel i
    rw [Array.getD_eq_getD_getElem?] at this
    exact this

/-! ### what a program's calls give -/
abbrev FF := FuncId → List Value → H → Option (Value × H)

def Post (B0 : Nat) (β : Ren) (h : H) (w : World) (v : Value) (h' : H) : Ending → World → Prop := fun e w' => ∃ v' β', e = .returned v' ∧ VRel β' v v' ∧ Go1 B0 β h w β' h' w'

def CallOk (P : Program) (f : FuncId) (args : List Value) (h : H) (v : Value) (h' : H) : Prop :=
  ∀ B0 β w cargs, HRel B0 β h w → LRel β args cargs →
    ((callFunc f cargs.toArray).run P w = .ok (.enter f cargs.toArray) w ∧ Calls P f cargs.toArray w (Post B0 β h w v h')) ∨
    (∃ v' w' β', (callFunc f cargs.toArray).run P w = .ok (.value v') w' ∧ VRel β' v v' ∧ Go1 B0 β h w β' h' w')

def Good (P : Program) (F : FF) : Prop := ∀ f args h v h', F f args h = some (v, h') → CallOk P f args h v h'

/-! ### one operation in a region -/
structure AInstr where
  dst : Option Nat
  guard : Option (Nat × Bool)
  op : AOp

def wantedA (t : VT) : Option (Nat × Bool) → Option Bool
  | none => some true
  | some (d, b) => match t.get d with
    | .bool c => some (c == b)
    | .float .f32 0 => some false
    | _ => none

def putA (n : Nat) (t : VT) (d : Option Nat) (v : Value) : Option VT :=
  match d with
  | none => some t
  | some d => if d < n then some (t.set d v) else none

def evalA (F : FF) (t : VT) (h : H) (o : AOp) : Option (Value × H) :=
  match o with
  | .call f args => match rho t f with
    | .func (.func g) fs cs => F g (fs.toList ++ args.map (rho t) ++ cs.toList) h
    | _ => none
  | o => opA (rho t) h o

def stepA (F : FF) (n : Nat) (i : AInstr) (t : VT) (h : H) : Option (VT × H) :=
  match wantedA t i.guard with
  | some true => match evalA F t h i.op with
    | some (v, h') => match putA n t i.dst v with
      | some t' => some (t', h')
      | none => none
    | none => none
  | some false => match putA n t i.dst skipv with
    | some t' => some (t', h)
    | none => none
  | none => none

/-- An operation of a region, with where its guard stands. -/
def compInstr (P : Program) (ops : Array Oper) (o : Oper) : AInstr :=
  match o.guard with
  | none => ⟨o.dst, none, compOp P o.op⟩
  | some (j, b) => match (ops[j]?).bind (·.dst) with
    | some d => ⟨o.dst, some (d, b), compOp P o.op⟩
    | none => ⟨o.dst, none, .bad⟩

section
variable {P : Program}

theorem compOp_call {op : Op} {f : Operand} {args : List Operand} (h : compOp P op = .call f args) : ∃ ty, op = .call { callee := .value f, args := args.toArray, argTypes := ty } := by
  cases op <;> first
    | (simp only [compOp] at h; cases h; done)
    | skip
  case call c =>
    obtain ⟨callee, as, ts⟩ := c
    cases callee with
    | value g => simp only [compOp] at h; cases h; exact ⟨ts, by simp⟩
    | invoke r m => simp only [compOp] at h; cases h
    | builtin b =>
      cases b <;> simp only [compOp] at h <;> first | (cases h; done) | (repeat' split at h) <;> cases h
  case slice t x lo hi mx =>
    cases mx <;> simp only [compOp] at h <;> (repeat' split at h) <;> cases h
  case next it b => cases b <;> simp only [compOp] at h <;> cases h
  case binOp op t x y ty => cases op <;> simp only [compOp, compBin] at h <;> first | (cases h; done) | (repeat' split at h) <;> cases h
  all_goals (simp only [compOp] at h; (repeat' split at h) <;> cases h)

theorem wanted_rel {β : Ren} {t : VT} {a : Act} {ops : Array Oper} {o : Oper} {j d : Nat} {b c : Bool} (hrel : VRel β (t.get d) (a.tmps.getD d undef)) (hg : o.guard = some (j, b)) (hd : (ops[j]?).bind (·.dst) = some d) (hw : wantedA t (some (d, b)) = some c) :
    Region.wanted o (yielded ops a.tmps) = c := by
  simp only [wantedA] at hw
  have hy : ∀ x : Value, a.tmps.getD d undef = x → yielded ops a.tmps j = (match x with | .bool b => some b | _ => none) := by
    intro x hx
    unfold yielded
    rw [hd]
    simp only [Option.bind_some]
    rw [Array.getD_eq_getD_getElem?] at hx
    cases hq : a.tmps[d]? with
    | none => rw [hq] at hx; simp only [Option.getD_none] at hx; subst hx; rfl
    | some y => rw [hq] at hx; simp only [Option.getD_some] at hx; subst hx; cases y <;> rfl
  unfold Region.wanted
  rw [hg]
  simp only []
  split at hw
  · rename_i q hq
    rw [hq] at hrel
    have := hrel.of_bool
    rw [hy _ this]
    cases hw
    cases q <;> cases b <;> rfl
  · rename_i hq
    rw [hq] at hrel
    have : a.tmps.getD d undef = undef := by
      generalize a.tmps.getD d undef = z at hrel
      cases hrel; rfl
    rw [hy _ this]
    cases hw
    rfl
  · cases hw

/-- One operation at its turn. -/
theorem step_ok {F : FF} (hF : Good P F) {B0 : Nat} {β : Ren} {h h' : H} {w : World} {n : Nat} {t t' : VT} {a : Act} {ops : Array Oper} {o : Oper} {i : Nat} {K : Act → World → Prop} {Q : Exit → Act → World → Prop}
    (hr : HRel B0 β h w) (ht : TRel β n t a) (hi : ops[i]? = some o) (hs : stepA F n (compInstr P ops o) t h = some (t', h'))
    (hK : ∀ β' a' w', Go1 B0 β h w β' h' w' → TRel β' n t' a' → K a' w') : wpOp P ops Q i K a w := by
  unfold stepA at hs
  have hput : ∀ {v : Value} {β' : Ren} {w' : World} {v' : Value}, Go1 B0 β h w β' h' w' → VRel β' v v' → putA n t o.dst v = some t' → K (a.put o.dst v') w' := by
    intro v β' w' v' hg hv hp
    refine hK β' _ w' hg ?_
    unfold putA at hp
    have ht' := ht.mono (hg.le hr)
    split at hp
    · rename_i hd; cases hp; rw [hd]; exact ht'
    · rename_i d hd
      split at hp
      · rename_i hlt; cases hp; rw [hd]; exact ht'.put hlt hv
      · cases hp
  have hdst : (compInstr P ops o).dst = o.dst := by unfold compInstr; split <;> (try split) <;> rfl
  rw [hdst] at hs
  have hwant : ∀ c, wantedA t (compInstr P ops o).guard = some c → ((compInstr P ops o).op = .bad ∧ c = true) ∨ (Region.wanted o (yielded ops a.tmps) = c ∧ (compInstr P ops o).op = compOp P o.op) := by
    intro c hc
    cases hg : o.guard with
    | none =>
      simp only [compInstr, hg] at hc ⊢
      cases hc
      exact .inr ⟨by unfold Region.wanted; rw [hg], trivial⟩
    | some q =>
      obtain ⟨j, b⟩ := q
      cases hd : (ops[j]?).bind (·.dst) with
      | some d =>
        simp only [compInstr, hg, hd] at hc ⊢
        exact .inr ⟨wanted_rel (ht.rel _) hg hd hc, trivial⟩
      | none =>
        simp only [compInstr, hg, hd] at hc ⊢
        cases hc
        exact .inl ⟨trivial, rfl⟩
  unfold wpOp
  simp only [hi]
  split at hs
  · rename_i hw
    rcases hwant true hw with ⟨hbad, _⟩ | ⟨hwt, hop⟩
    · rw [hbad] at hs; cases hs
    rw [hwt, if_pos rfl]
    rw [hop] at hs
    split at hs
    · rename_i v h1 he
      split at hs
      · rename_i t1 hp
        cases hs
        left
        unfold Oper.wp
        unfold evalA at he
        split at he
        · rename_i f args hco
          split at he
          · rename_i g fs cs hf
            have hcall : ∃ ty, o.op = .call { callee := .value f, args := args.toArray, argTypes := ty } := by
              exact compOp_call hco
            obtain ⟨ty, hoc⟩ := hcall
            have hfr := ht.rho hr f
            rw [hf] at hfr
            obtain ⟨fs', cs', e1, e2, e3⟩ := hfr.of_func
            have hargs : LRel β (fs.toList ++ args.map (rho t) ++ cs.toList) (fs'.toList ++ args.map a.eval ++ cs'.toList) :=
              (e2.append (LRel.map (ht.rho hr) args)).append e3
            have hex : execOp a.eval o = callFunc g (fs'.toList ++ args.map a.eval ++ cs'.toList).toArray := by
              have he2 : (fs'.toList ++ args.map a.eval ++ cs'.toList).toArray = fs' ++ (args.map a.eval).toArray ++ cs' := by apply Array.ext'; simp
              rw [he2]
              simp [execOp, hoc, resolve, e1, Deferred.ofValue, invoke]
            rw [hex]
            rcases hF g _ h v h' he B0 β w _ hr hargs with ⟨c1, c2⟩ | ⟨v', w', β', c1, c2, c3⟩
            · rw [c1, Oper.upon_enter]
              refine c2.mono ?_
              rintro e w' ⟨v', β', rfl, hv, hg⟩
              exact hput hg hv hp
            · rw [c1, Oper.upon_value]
              exact hput c3 c2 hp
          · cases he
        · rename_i hnc
          obtain ⟨r, w', β', c1, c2, c3⟩ := sim_op hr (ht.rho hr) o he
          rw [c1]
          rcases c2 with ⟨rfl, rfl⟩ | ⟨v', rfl, c2⟩
          · rw [Oper.upon_skip]; exact hput c3 (.undef _) hp
          · rw [Oper.upon_value]; exact hput c3 c2 hp
      · cases hs
    · cases hs
  · rename_i hw
    split at hs
    · rename_i t1 hp
      cases hs
      rcases hwant false hw with ⟨_, hbad⟩ | ⟨hwt, hop⟩
      · cases hbad
      · rw [hwt]
        simp only [Bool.false_eq_true, if_false]
        exact hput (Go1.refl hr) .skip hp
    · cases hs
  · cases hs

end
end Go.Abs
