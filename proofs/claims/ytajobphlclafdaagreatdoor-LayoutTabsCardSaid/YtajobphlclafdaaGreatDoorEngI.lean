import Derived.Test.YtajobphlclafdaaGreatDoorEngH
set_option linter.unusedVariables false
set_option linter.unusedSimpArgs false
/-! The operations, brought together. -/
namespace Go.Abs
open Go.RowKit (Below)

inductive AOp where
  | move (x : Operand)
  | pick (c a b : Operand)
  | alloc (e : TypeId) (zs : List Value)
  | box (e : TypeId) (x : Operand)
  | build (places : List (Nat × Nat)) (zs : List Value) (parts : List (Nat × Operand))
  | buildSl (e : TypeId) (esz len : Nat) (zs : List Value) (parts : List (Nat × Operand))
  | load1 (a : Operand)
  | loadN (n : Nat) (a : Operand)
  | store (n : Nat) (a x : Operand)
  | nilCheck (x : Operand)
  | bin (op : BinOp) (x y : Operand)
  | eq (neg : Bool) (k : EqTy) (x y : Operand)
  | un (op : UnOp) (x : Operand)
  | convInt (k : IntKind) (x : Operand)
  | makeFunc (fn : Fn) (first captured : List Operand)
  | cutStr (x : Operand) (lo hi : Option Operand)
  | cutSl (esz : Nat) (x : Operand) (lo hi : Option Operand)
  | shift (n : Nat) (x : Operand)
  | field1 (off : Nat) (x : Operand)
  | fieldN (off n : Nat) (x : Operand)
  | idxAddr (esz : Nat) (x i : Operand)
  | idxStr (x i : Operand)
  | rangeStr (x : Operand)
  | nextStr (it : Operand)
  | extract (x : Operand) (i : Nat)
  | len (k : LenTy) (x : Operand)
  | append (e : TypeId) (esz bytes : Nat) (s x : Operand)
  | copy (esz : Nat) (d s : Operand)
  | minmax (max : Bool) (x y : Operand)
  | makeSl (e : TypeId) (esz bytes : Nat) (zs : List Value) (l c : Operand)
  | idxArr (len esz : Nat) (x i : Operand)
  | call (f : Operand) (args : List Operand)
  | bad

def compBin (P : Program) (op : BinOp) (t : TypeId) (x y : Operand) : AOp :=
  match op with
  | .eql | .neq =>
    match eqTy P t with
    | some k => .eq (match op with | .neq => true | _ => false) k x y
    | none => .bin op x y
  | _ => .bin op x y

/-- What an operation of the program comes to. -/
def compOp (P : Program) : Op → AOp
  | .move x | .assign x => .move x
  | .pick c a b => .pick c a b
  | .alloc e => match zeroB P e with
    | some zs => .alloc e zs
    | none => .bad
  | .box e x => .box e x
  | .build t ps => match structPlaces P t, zeroB P t with
    | some pl, some zs => .build pl zs ps.toList
    | _, _ => .bad
  | .buildSlice t n ps => match sliceInfo P t with
    | some (e, esz) => match zeroB P e with
      | some zs => .buildSl e esz n zs ps.toList
      | none => .bad
    | none => .bad
  | .load t a => match aggB P t, sizeB P t with
    | some false, _ => .load1 a
    | some true, some n => .loadN n a
    | _, _ => .bad
  | .store t a x => match sizeB P t with
    | some n => .store n a x
    | none => .bad
  | .nilCheck x => .nilCheck x
  | .binOp op t x y _ => compBin P op t x y
  | .unOp op _ x => .un op x
  | .convert src dst x => match convIntB P src dst with
    | some k => .convInt k x
    | none => .bad
  | .makeFunc fn f c => .makeFunc fn f.toList c.toList
  | .slice t x lo hi none => match P.underlying t with
    | some .string => .cutStr x lo hi
    | some (.slice _) => match sliceInfo P t with
      | some (_, n) => .cutSl n x lo hi
      | none => .bad
    | _ => .bad
  | .fieldAddr s x f => match fieldOff P s f with
    | some n => .shift n x
    | none => .bad
  | .field s x f => match fieldTy P s f with
    | some (ft, off) => match aggB P ft, sizeB P ft with
      | some false, _ => .field1 off x
      | some true, some n => .fieldN off n x
      | _, _ => .bad
    | none => .bad
  | .indexAddr t x i => match sliceInfo P t with
    | some (_, n) => .idxAddr n x i
    | none => match arrInfo P t with
      | some (len, n) => .idxArr len n x i
      | none => .bad
  | .makeSlice t l c => match sliceInfo P t with
    | some (e, esz) => match zeroB P e, bytesB P e with
      | some zs, some by_ => .makeSl e esz by_ zs l c
      | _, _ => .bad
    | none => .bad
  | .index t x i => match P.underlying t with
    | some .string => .idxStr x i
    | _ => .bad
  | .range t x => match P.underlying t with
    | some .string => .rangeStr x
    | _ => .bad
  | .next it true => .nextStr it
  | .extract x i => .extract x i
  | .call { callee := .builtin .len, args, argTypes } => match args.toList, lenTy P argTypes with
    | [x], some k => .len k x
    | _, _ => .bad
  | .call { callee := .builtin .append, args, argTypes } => match args.toList, argTypes[0]? with
    | [s, x], some st => match sliceInfo P st with
      | some (e, esz) => match zeroB P e, bytesB P e with
        | some zs, some by_ => if zs.length = esz ∧ plainArg P argTypes = true then .append e esz by_ s x else .bad
        | _, _ => .bad
      | none => .bad
    | _, _ => .bad
  | .call { callee := .builtin .copy, args, argTypes } => match args.toList, argTypes[0]? with
    | [d, x], some st => match sliceInfo P st with
      | some (_, esz) => .copy esz d x
      | none => .bad
    | _, _ => .bad
  | .call { callee := .builtin .max, args, .. } => match args.toList with
    | [x, y] => .minmax true x y
    | _ => .bad
  | .call { callee := .builtin .min, args, .. } => match args.toList with
    | [x, y] => .minmax false x y
    | _ => .bad
  | .call { callee := .value f, args, .. } => .call f args.toList
  | _ => .bad

def minmaxA (mx : Bool) (x y : Value) : Option Value :=
  match x, y with
  | .int k a, .int _ b => some (.int k (if mx then (if b > a then b else a) else (if b < a then b else a)))
  | _, _ => none

def pureO (h : H) (v : Option Value) : Option (Value × H) :=
  match v with
  | some v => some (v, h)
  | none => none

/-- One operation, no call. -/
def opA (ρ : Operand → Value) (h : H) : AOp → Option (Value × H)
  | .move x => some (ρ x, h)
  | .pick c a b => match ρ c with
    | .bool t => some (if t then ρ a else ρ b, h)
    | _ => none
  | .alloc e zs => some (.pointer (some ⟨h.next, 0, none⟩), h.new (.cells zs e .var))
  | .box e x => match vcells (ρ x) with
    | some xs => some (.pointer (some ⟨h.next, 0, none⟩), h.new (.cells xs e .var))
    | none => none
  | .build pl zs ps => pureO h (buildA pl zs (ps.map fun p => (p.1, ρ p.2)))
  | .buildSl e esz n zs ps => buildSlA e esz n zs (ps.map fun p => (p.1, ρ p.2)) h
  | .load1 a => pureO h (load1 h (ρ a))
  | .loadN n a => pureO h (loadN h n (ρ a))
  | .store n a x => match store h n (ρ a) (ρ x) with
    | some h' => some (undef, h')
    | none => none
  | .nilCheck x => pureO h (nilCheckA (ρ x))
  | .bin op x y => pureO h (bin op (ρ x) (ρ y))
  | .eq neg k x y => if eqFit k (ρ x) then pureO h (eqOp neg (ρ x) (ρ y)) else none
  | .un op x => pureO h (un op (ρ x))
  | .convInt k x => pureO h (convIntA k (ρ x))
  | .makeFunc fn f c => some (.func fn (f.map ρ).toArray (c.map ρ).toArray, h)
  | .cutStr x lo hi => pureO h (cutStr (ρ x) (lo.map ρ) (hi.map ρ))
  | .cutSl n x lo hi => pureO h (cutSl n (ρ x) (lo.map ρ) (hi.map ρ))
  | .shift n x => pureO h (shift n (ρ x))
  | .field1 off x => pureO h (part1 (ρ x) off)
  | .fieldN off n x => pureO h (partN (ρ x) off n)
  | .idxAddr n x i => pureO h (idxAddr n (ρ x) (ρ i))
  | .idxStr x i => pureO h (idxStr (ρ x) (ρ i))
  | .rangeStr x => rangeStr h (ρ x)
  | .nextStr it => nextStr h (ρ it)
  | .extract x i => pureO h (extractA (ρ x) i)
  | .len k x => if lenFit k (ρ x) then pureO h (lenA h (ρ x)) else none
  | .append e esz by_ s x => appendA e esz by_ h (ρ s) (ρ x)
  | .copy esz d x => copyA esz h (ρ d) (ρ x)
  | .minmax mx x y => pureO h (minmaxA mx (ρ x) (ρ y))
  | .makeSl e esz by_ zs l c => makeSlA e esz by_ zs h (ρ l) (ρ c)
  | .idxArr len n x i => pureO h (idxArrA len n (ρ x) (ρ i))
  | .call _ _ => none
  | .bad => none

section
variable {P : Program} {B0 : Nat} {β : Ren} {h : H} {w : World}

/-- What the model's operation gives. -/
def OpOk (P : Program) (B0 : Nat) (β : Ren) (h : H) (w : World) (s : Sem Next) (v : Value) (h' : H) : Prop :=
  ∃ r w' β', s.run P w = .ok r w' ∧ (r = .skip ∧ v = undef ∨ ∃ v', r = .value v' ∧ VRel β' v v') ∧ Go1 B0 β h w β' h' w'

theorem OpOk.of_sim {s : Sem Value} {v : Value} {h' : H} (hs : Sim P B0 β h w s v h') : OpOk P B0 β h w (do pure (.value (← s))) v h' := by
  obtain ⟨v', w', β', h1, h2, h3⟩ := hs
  exact ⟨.value v', w', β', by simp [h1], .inr ⟨v', rfl, h2⟩, h3⟩

theorem PRel.map {ρ ρ' : Operand → Value} (hρ : ∀ x, VRel β (ρ x) (ρ' x)) : ∀ l : List (Nat × Operand), PRel β (l.map fun p => (p.1, ρ p.2)) (l.map fun p => (p.1, ρ' p.2))
  | [] => .nil
  | (_, x) :: l => .cons (hρ x) (PRel.map hρ l)

theorem LRel.map {ρ ρ' : Operand → Value} (hρ : ∀ x, VRel β (ρ x) (ρ' x)) : ∀ l : List Operand, LRel β (l.map ρ) (l.map ρ')
  | [] => .nil
  | x :: l => .cons (hρ x) (LRel.map hρ l)

theorem ORelO.map {ρ ρ' : Operand → Value} (hρ : ∀ x, VRel β (ρ x) (ρ' x)) (o : Option Operand) : ORelO β (o.map ρ) (o.map ρ') := by
  cases o with
  | none => trivial
  | some x => exact hρ x

theorem pureO_some {v : Option Value} {x : Value} {h' : H} (hv : pureO h v = some (x, h')) : v = some x ∧ h' = h := by
  cases v with
  | none => cases hv
  | some y => cases hv; exact ⟨rfl, rfl⟩

theorem sim_op (hr : HRel B0 β h w) {ρ ρ' : Operand → Value} (hρ : ∀ x, VRel β (ρ x) (ρ' x)) (o : Oper) {v : Value} {h' : H} (hv : opA ρ h (compOp P o.op) = some (v, h')) :
    OpOk P B0 β h w (execOp ρ' o) v h' := by
  obtain ⟨dst, op, ty, pos, after, guard⟩ := o
  cases op <;> first
    | (simp only [compOp, opA] at hv; cases hv; done)
    | skip
  case move x => simp only [compOp, opA] at hv; cases hv; exact ⟨_, w, β, rfl, .inr ⟨_, rfl, hρ x⟩, Go1.refl hr⟩
  case assign x => simp only [compOp, opA] at hv; cases hv; exact ⟨_, w, β, rfl, .inr ⟨_, rfl, hρ x⟩, Go1.refl hr⟩
  case pick c a b =>
    simp only [compOp, opA] at hv
    split at hv
    · rename_i t ht
      cases hv
      have hc := hρ c
      rw [ht] at hc
      have hc' := hc.of_bool
      refine ⟨.value (if t then ρ' a else ρ' b), w, β, ?_, .inr ⟨_, rfl, ?_⟩, Go1.refl hr⟩
      · simp [execOp, hc', asBool]
      · cases t
        · exact hρ b
        · exact hρ a
    · cases hv
  case alloc e =>
    simp only [compOp] at hv
    split at hv
    · rename_i zs hz
      simp only [opA] at hv; cases hv
      exact OpOk.of_sim (sim_alloc hr hz)
    · cases hv
  case box e x =>
    simp only [compOp, opA] at hv
    split at hv
    · rename_i xs hx; cases hv; exact OpOk.of_sim (sim_box hr (hρ x) hx)
    · cases hv
  case build t ps =>
    simp only [compOp] at hv
    split at hv
    · rename_i pl zs h1 h2
      simp only [opA] at hv
      obtain ⟨hq, rfl⟩ := pureO_some hv
      exact OpOk.of_sim (sim_build hr h1 h2 (by simpa using PRel.map hρ ps.toList) hq)
    · cases hv
  case buildSlice t n ps =>
    simp only [compOp] at hv
    split at hv
    · rename_i e esz h1
      split at hv
      · rename_i zs h2
        simp only [opA] at hv
        exact OpOk.of_sim (sim_buildSl hr h1 h2 (by simpa using PRel.map hρ ps.toList) hv)
      · cases hv
    · cases hv
  case load t a =>
    simp only [compOp] at hv
    split at hv
    · rename_i h1
      simp only [opA] at hv
      obtain ⟨hq, rfl⟩ := pureO_some hv
      exact OpOk.of_sim (sim_load1 hr h1 (hρ a) hq)
    · rename_i n h1 h2
      simp only [opA] at hv
      obtain ⟨hq, rfl⟩ := pureO_some hv
      exact OpOk.of_sim (sim_loadN hr h1 h2 (hρ a) hq)
    · cases hv
  case store t a x =>
    simp only [compOp] at hv
    split at hv
    · rename_i n h1
      simp only [opA] at hv
      split at hv
      · rename_i h2 hs
        cases hv
        obtain ⟨w', r1, r2⟩ := sim_store hr h1 (hρ a) (hρ x) hs
        exact ⟨.skip, w', β, by simp [execOp, r1], .inl ⟨rfl, rfl⟩, r2⟩
      · cases hv
    · cases hv
  case nilCheck x =>
    simp only [compOp, opA] at hv
    obtain ⟨hq, rfl⟩ := pureO_some hv
    unfold nilCheckA at hq
    split at hq
    · rename_i a hx
      cases hq
      have hc := hρ x
      rw [hx] at hc
      have : ∃ a', ρ' x = .pointer (some a') := by
        generalize ρ' x = y at hc
        cases hc; exact ⟨_, rfl⟩
      obtain ⟨a', ha'⟩ := this
      refine ⟨.value (ρ' x), w, β, ?_, .inr ⟨_, rfl, hc⟩, Go1.refl hr⟩
      simp [execOp, ha']
    · cases hq
  case binOp op t x y yt =>
    simp only [compOp, compBin] at hv
    have hb : ∀ {op : BinOp}, opA ρ h (.bin op x y) = some (v, h') → OpOk P B0 β h w (do pure (.value (← (do eqGuard op t x y (ρ' x) (ρ' y); binOp op t (ρ' x) (ρ' y))))) v h' := by
      intro op hv
      simp only [opA] at hv
      obtain ⟨hq, rfl⟩ := pureO_some hv
      exact OpOk.of_sim (sim_bin hr (hρ x) (hρ y) hq)
    have he : ∀ (neg : Bool) (k : EqTy), eqTy P t = some k → opA ρ h (.eq neg k x y) = some (v, h') →
        OpOk P B0 β h w (do pure (.value (← (do eqGuard (if neg then .neq else .eql) t x y (ρ' x) (ρ' y); binOp (if neg then .neq else .eql) t (ρ' x) (ρ' y))))) v h' := by
      intro neg k hk hv
      simp only [opA] at hv
      split at hv
      · rename_i hf
        obtain ⟨hq, rfl⟩ := pureO_some hv
        exact OpOk.of_sim (sim_eqOp hr hk hf (hρ x) (hρ y) hq)
      · cases hv
    cases op
    case eql =>
      simp only [] at hv
      split at hv
      · rename_i k hk; exact he false k hk hv
      · exact hb hv
    case neq =>
      simp only [] at hv
      split at hv
      · rename_i k hk; exact he true k hk hv
      · exact hb hv
    all_goals exact hb hv
  case unOp op t x =>
    simp only [compOp, opA] at hv
    obtain ⟨hq, rfl⟩ := pureO_some hv
    exact OpOk.of_sim (sim_un hr (hρ x) hq)
  case convert src dst x =>
    simp only [compOp] at hv
    split at hv
    · rename_i k hk
      simp only [opA] at hv
      obtain ⟨hq, rfl⟩ := pureO_some hv
      exact OpOk.of_sim (sim_convInt hr hk (hρ x) hq)
    · cases hv
  case makeFunc fn f c =>
    simp only [compOp, opA] at hv
    cases hv
    refine ⟨.value (.func fn (f.map ρ') (c.map ρ')), w, β, by simp [execOp, Instr.makeFunc], .inr ⟨_, rfl, ?_⟩, Go1.refl hr⟩
    refine .func _ _ _ _ _ (by simp) (by simp) ?_ ?_
    · intro i hi hi'; simp; exact hρ _
    · intro i hi hi'; simp; exact hρ _
  case slice t x lo hi mx =>
    cases mx with
    | some m => simp only [compOp, opA] at hv; cases hv
    | none =>
      simp only [compOp] at hv
      split at hv
      · rename_i hu
        simp only [opA] at hv
        obtain ⟨hq, rfl⟩ := pureO_some hv
        exact OpOk.of_sim (sim_cutStr hr hu (hρ x) (ORelO.map hρ lo) (ORelO.map hρ hi) hq)
      · rename_i e hu
        split at hv
        · rename_i e' n hs
          simp only [opA] at hv
          obtain ⟨hq, rfl⟩ := pureO_some hv
          obtain ⟨h1, h2⟩ := sliceInfo_spec hs
          exact OpOk.of_sim (sim_cutSl hr (by unfold sliceElem; rw [h1]; simp [h2]) (hρ x) (ORelO.map hρ lo) (ORelO.map hρ hi) hq)
        · cases hv
      · cases hv
  case fieldAddr s x f =>
    simp only [compOp] at hv
    split at hv
    · rename_i n hn
      simp only [opA] at hv
      obtain ⟨hq, rfl⟩ := pureO_some hv
      exact OpOk.of_sim (sim_fieldAddr hr hn (hρ x) hq)
    · cases hv
  case field s x f =>
    simp only [compOp] at hv
    split at hv
    · rename_i ft off h1
      split at hv
      · rename_i h2
        simp only [opA] at hv
        obtain ⟨hq, rfl⟩ := pureO_some hv
        exact OpOk.of_sim (sim_field1 hr h1 h2 (hρ x) hq)
      · rename_i n h2 h3
        simp only [opA] at hv
        obtain ⟨hq, rfl⟩ := pureO_some hv
        exact OpOk.of_sim (sim_fieldN hr h1 h2 h3 (hρ x) hq)
      · cases hv
    · cases hv
  case indexAddr t x i =>
    simp only [compOp] at hv
    split at hv
    · rename_i e n hs
      simp only [opA] at hv
      obtain ⟨hq, rfl⟩ := pureO_some hv
      obtain ⟨h1, h2⟩ := sliceInfo_spec hs
      exact OpOk.of_sim (sim_idxAddr hr (by unfold sliceElem; rw [h1]; simp [h2]) (hρ x) (hρ i) hq)
    · split at hv
      · rename_i len n hs
        simp only [opA] at hv
        obtain ⟨hq, rfl⟩ := pureO_some hv
        exact OpOk.of_sim (sim_idxArr hr hs (hρ x) (hρ i) hq)
      · cases hv
  case makeSlice t l c =>
    simp only [compOp] at hv
    split at hv
    · rename_i e esz hs
      split at hv
      · rename_i zs by_ hz hby
        simp only [opA] at hv
        exact OpOk.of_sim (sim_makeSl hr hs hz hby (hρ l) (hρ c) hv)
      · cases hv
    · cases hv
  case index t x i =>
    simp only [compOp] at hv
    split at hv
    · rename_i hu
      simp only [opA] at hv
      obtain ⟨hq, rfl⟩ := pureO_some hv
      exact OpOk.of_sim (sim_idxStr hr hu (hρ x) (hρ i) hq)
    · cases hv
  case range t x =>
    simp only [compOp] at hv
    split at hv
    · rename_i hu
      simp only [opA] at hv
      exact OpOk.of_sim (sim_rangeStr hr hu (hρ x) hv)
    · cases hv
  case next it b =>
    cases b with
    | false => simp only [compOp, opA] at hv; cases hv
    | true =>
      simp only [compOp, opA] at hv
      exact OpOk.of_sim (sim_nextStr hr (hρ it) hv)
  case extract x i =>
    simp only [compOp, opA] at hv
    obtain ⟨hq, rfl⟩ := pureO_some hv
    exact OpOk.of_sim (sim_extract hr (hρ x) hq)
  case call c =>
    obtain ⟨callee, args, argTypes⟩ := c
    cases callee with
    | value f => simp only [compOp, opA] at hv; cases hv
    | invoke r m => simp only [compOp, opA] at hv; cases hv
    | builtin b =>
      cases b <;> first
        | (simp only [compOp, opA] at hv; cases hv; done)
        | skip
      case len =>
        simp only [compOp] at hv
        split at hv
        · rename_i x k ha hk
          simp only [opA] at hv
          split at hv
          · rename_i hf
            obtain ⟨hq, rfl⟩ := pureO_some hv
            have hargs : args = #[x] := by rw [← Array.toArray_toList (xs := args), ha]
            subst hargs
            have := OpOk.of_sim (sim_len (ty := ty) hr hk hf (hρ x) hq)
            simpa [execOp, resolve, invoke, builtin] using this
          · cases hv
        · cases hv
      case append =>
        simp only [compOp] at hv
        split at hv
        · rename_i s x st ha hst
          split at hv
          · rename_i e esz hs
            split at hv
            · rename_i zs by_ hz hby
              split at hv
              · rename_i hc
                simp only [opA] at hv
                have hargs : args = #[s, x] := by rw [← Array.toArray_toList (xs := args), ha]
                subst hargs
                have := OpOk.of_sim (sim_append (ty := ty) hr hst hs hz hc.1 hby hc.2 (hρ s) (hρ x) hv)
                simpa [execOp, resolve, invoke, builtin] using this
              · cases hv
            · cases hv
          · cases hv
        · cases hv
      case copy =>
        simp only [compOp] at hv
        split at hv
        · rename_i d x st ha hst
          split at hv
          · rename_i e esz hs
            simp only [opA] at hv
            have hargs : args = #[d, x] := by rw [← Array.toArray_toList (xs := args), ha]
            subst hargs
            have := OpOk.of_sim (sim_copy (ty := ty) hr hst hs (hρ d) (hρ x) hv)
            simpa [execOp, resolve, invoke, builtin] using this
          · cases hv
        · cases hv
      case max =>
        simp only [compOp] at hv
        split at hv
        · rename_i x y ha
          simp only [opA] at hv
          obtain ⟨hq, rfl⟩ := pureO_some hv
          have hargs : args = #[x, y] := by rw [← Array.toArray_toList (xs := args), ha]
          subst hargs
          unfold minmaxA at hq
          split at hq
          · rename_i k a k2 b hx hy
            cases hq
            have h1 := hρ x
            have h2 := hρ y
            rw [hx] at h1; rw [hy] at h2
            have e1 := h1.of_int; have e2 := h2.of_int
            refine ⟨.value (.int k (if b > a then b else a)), w, β, ?_, .inr ⟨_, rfl, .int _ _⟩, Go1.refl hr⟩
            simp [execOp, resolve, invoke, builtin, Builtin.max_, Builtin.max2, e1, e2]
          · cases hq
        · cases hv
      case min =>
        simp only [compOp] at hv
        split at hv
        · rename_i x y ha
          simp only [opA] at hv
          obtain ⟨hq, rfl⟩ := pureO_some hv
          have hargs : args = #[x, y] := by rw [← Array.toArray_toList (xs := args), ha]
          subst hargs
          unfold minmaxA at hq
          split at hq
          · rename_i k a k2 b hx hy
            cases hq
            have h1 := hρ x
            have h2 := hρ y
            rw [hx] at h1; rw [hy] at h2
            have e1 := h1.of_int; have e2 := h2.of_int
            refine ⟨.value (.int k (if b < a then b else a)), w, β, ?_, .inr ⟨_, rfl, .int _ _⟩, Go1.refl hr⟩
            simp [execOp, resolve, invoke, builtin, Builtin.min_, Builtin.min2, e1, e2]
          · cases hq
        · cases hv

end
end Go.Abs
