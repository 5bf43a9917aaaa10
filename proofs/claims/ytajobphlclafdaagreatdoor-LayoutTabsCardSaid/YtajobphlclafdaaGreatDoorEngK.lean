import Derived.Test.YtajobphlclafdaaGreatDoorEngM
set_option linter.unusedVariables false
set_option linter.unusedSimpArgs false
/-! Code and functions of the abstract machine. -/
namespace Go.Abs
open Go.RowKit (Below)

def opsA (F : FF) (n : Nat) : List AInstr → VT → H → Option (VT × H)
  | [], t, h => some (t, h)
  | i :: rest, t, h => match stepA F n i t h with
    | some (t', h') => opsA F n rest t' h'
    | none => none

/-- Is it what one read before? -/
def veq : Value → Value → Bool
  | .bool a, .bool b => a == b
  | .int k a, .int k' b => decide (k = k') && a == b
  | .string a, .string b => a.data.toList == b.data.toList
  | .pointer none, .pointer none => true
  | .pointer (some ⟨a, b, none⟩), .pointer (some ⟨c, d, none⟩) => a == c && b == d
  | .slice none 0 0, .slice none 0 0 => true
  | .slice (some ⟨a, b, none⟩) n e, .slice (some ⟨c, d, none⟩) m f => a == c && b == d && n == m && e == f
  | .map none, .map none => true
  | .map (some a), .map (some b) => a == b
  | .nilFunc, .nilFunc => true
  | _, _ => false

def lveq : List Value → List Value → Bool
  | [], [] => true
  | a :: l, b :: m => veq a b && lveq l m
  | _, _ => false

def veqA : Value → Value → Bool
  | .agg a, .agg b => lveq a.toList b.toList
  | .func (.func f) a c, .func (.func g) b d => f == g && lveq a.toList b.toList && lveq c.toList d.toList
  | a, b => veq a b

theorem veq_eq {a b : Value} (h : veq a b = true) : a = b := by
  unfold veq at h
  split at h <;> first
    | rfl
    | (cases h; done)
    | (simp only [Bool.and_eq_true, beq_iff_eq, decide_eq_true_eq] at h; first | (obtain ⟨rfl, rfl⟩ := h; rfl) | (obtain ⟨⟨⟨rfl, rfl⟩, rfl⟩, rfl⟩ := h; rfl) | (subst h; rfl))
    | skip
  case h_3 a b =>
    simp only [beq_iff_eq] at h
    obtain ⟨⟨a⟩⟩ := a; obtain ⟨⟨b⟩⟩ := b
    simp only at h; subst h; rfl

theorem lveq_eq : ∀ {a b : List Value}, lveq a b = true → a = b
  | [], [], _ => rfl
  | a :: l, b :: m, h => by
    simp only [lveq, Bool.and_eq_true] at h
    rw [veq_eq h.1, lveq_eq h.2]
  | [], _ :: _, h => by cases h
  | _ :: _, [], h => by cases h

theorem veqA_eq {a b : Value} (h : veqA a b = true) : a = b := by
  unfold veqA at h
  split at h
  · rw [Array.ext' (lveq_eq h)]
  · simp only [Bool.and_eq_true, beq_iff_eq] at h
    obtain ⟨⟨rfl, h1⟩, h2⟩ := h
    rw [Array.ext' (lveq_eq h1), Array.ext' (lveq_eq h2)]
  · exact veq_eq h

/-- A region that draws its order: what is done between the effects, what is read again, the effect behind it; at the end, two that store, in either order. -/
structure Stage where
  group : List Nat
  again : List Nat
  eff : Option Nat
  pair : Option Nat

inductive AExit where
  | norm
  | exit (id : Nat)
  | ret

inductive ACode where
  | skip
  | ops (l : List AInstr)
  | draw (ops : List AInstr) (l : List Stage)
  | seq (a b : ACode)
  | cond (c : Operand) (a b : ACode)
  | block (id : Nat) (a : ACode)
  | loop (a : ACode)
  | exit (id : Nat)
  | ret
  | keep (ks : List Nat) (a : ACode)
  | bad

def pick (ops : List AInstr) : List Nat → List AInstr
  | [] => []
  | i :: l => match ops[i]? with
    | some o => o :: pick ops l
    | none => pick ops l

/-- Read again: the same. -/
def againA (t : VT) (h : H) : List AInstr → Bool
  | [] => true
  | i :: l => (match wantedA t i.guard with
    | some true => match i.dst, opA (rho t) h i.op with
      | some d, some (v, _) => veqA (t.get d) v
      | _, _ => false
    | some false => true
    | none => false) && againA t h l

/-- Do the two store in two blocks? -/
def apartA (t : VT) (x y : AInstr) : Bool :=
  match x.op, y.op with
  | .store _ a _, .store _ b _ => match ptrOf (rho t a), ptrOf (rho t b) with
    | some (p, _), some (q, _) => !(p == q)
    | _, _ => false
  | _, _ => false

def stagesA (F : FF) (n : Nat) (ops : List AInstr) : List Stage → VT → H → Option (VT × H)
  | [], t, h => some (t, h)
  | s :: rest, t, h => match opsA F n (pick ops s.group) t h with
    | some (t1, h1) => if againA t1 h1 (pick ops s.again) then
        match s.eff with
        | some e => match ops[e]? with
          | some o => match stepA F n o t1 h1 with
            | some (t2, h2) => match s.pair with
              | none => stagesA F n ops rest t2 h2
              | some e' => match ops[e']? with
                | some o' => if apartA t1 o o' then stepA F n o' t2 h2 else none
                | none => none
            | none => none
          | none => none
        | none => stagesA F n ops rest t1 h1
      else none
    | none => none

def loopN (body : VT → H → Option (AExit × VT × H)) : Nat → VT → H → Option (AExit × VT × H)
  | 0, _, _ => none
  | k + 1, t, h => match body t h with
    | some (.norm, t', h') => loopN body k t' h'
    | r => r

def norm (r : Option (VT × H)) : Option (AExit × VT × H) :=
  match r with
  | some (t, h) => some (.norm, t, h)
  | none => none

/-- n: how many temporaries; m: a bound on rounds. -/
def codeA (F : FF) (n m : Nat) : ACode → VT → H → Option (AExit × VT × H)
  | .skip, t, h => some (.norm, t, h)
  | .ops l, t, h => norm (opsA F n l t h)
  | .draw ops l, t, h => norm (stagesA F n ops l t h)
  | .seq a b, t, h => match codeA F n m a t h with
    | some (.norm, t', h') => codeA F n m b t' h'
    | r => r
  | .cond c a b, t, h => match rho t c with
    | .bool true => codeA F n m a t h
    | .bool false => codeA F n m b t h
    | _ => none
  | .block id a, t, h => match codeA F n m a t h with
    | some (.exit i, t', h') => if i = id then some (.norm, t', h') else some (.exit i, t', h')
    | r => r
  | .loop a, t, h => loopN (codeA F n m a) m t h
  | .exit id, t, h => some (.exit id, t, h)
  | .ret, t, h => some (.ret, t, h)
  | .keep ks a, t, h => codeA F n m a (t.keep ks) h
  | .bad, _, _ => none

/-- How a program's code is taken: the stages of the regions that draw, what is kept. -/
inductive Ann where
  | none
  | keep (ks : List Nat) (a : Ann)
  | two (a b : Ann)
  | one (a : Ann)
  | draw (l : List Stage)

def Ann.left : Ann → Ann
  | .two a _ => a
  | _ => .none
def Ann.right : Ann → Ann
  | .two _ b => b
  | _ => .none
def Ann.down : Ann → Ann
  | .one a => a
  | _ => .none

/-- j comes ahead of i, by the table. -/
def ahead (ms : List Nat) (j i : Nat) : Bool := (ms.getD i 0).testBit j

/-- Does it change something? (What a name is given, too: it comes behind all that reads it.) -/
def effB (ops : Array Oper) (A : List AInstr) (i : Nat) : Bool :=
  (match ops[i]? with
    | some o => (match o.op with
      | .assign _ => true
      | _ => false)
    | none => true) ||
  (match A[i]? with
    | some x => (match x.op.cls with
      | .eff => true
      | _ => false)
    | none => true)

def readB (A : List AInstr) (i : Nat) : Bool :=
  match A[i]? with
  | some x => (match x.op.cls with
    | .read => true
    | _ => false)
  | none => false

def tmpsOf : List Operand → List Nat
  | [] => []
  | .tmp t :: l => t :: tmpsOf l
  | _ :: l => tmpsOf l

def AInstr.reads (x : AInstr) : List Nat :=
  (match x.guard with
    | some (d, _) => [d]
    | none => []) ++ tmpsOf x.op.opnds

/-- Who writes a temporary is alone in it; who reads it comes behind it, or ahead of it if it comes late. -/
def tempsOk (ms : List Nat) (ops : Array Oper) (A : List AInstr) : Bool :=
  (List.range ops.size).all fun i => match A[i]? with
    | some x => (match x.dst with
      | some t => (List.range ops.size).all fun j => match A[j]? with
        | some y => if i = j then !(y.reads.contains t) else !(y.dst == some t) && (!(y.reads.contains t) || ahead ms i j || (ahead ms j i && effB ops A i))
        | none => true
      | none => true)
    | none => true

def directOk (o : Oper) (D : List Nat) : Bool := o.after.toList.all fun e => !Region.binds .any e || D.contains e.on

def groupOk (ms : List Nat) (ops : Array Oper) (A : List AInstr) (E : List Nat) : List Nat → List Nat → Bool
  | _, [] => true
  | D, i :: g => !effB ops A i && !D.contains i && (match ops[i]? with
      | some o => directOk o D
      | none => false) && (E.all fun e => ahead ms e i) && groupOk ms ops A E (D ++ [i]) g

/-- It stores, and nothing more. -/
def storeB (A : List AInstr) (i : Nat) : Bool :=
  match A[i]? with
  | some ⟨none, none, .store _ _ _⟩ => true
  | _ => false

def stagesOk (two : Bool) (ms : List Nat) (ops : Array Oper) (A : List AInstr) : List Nat → List Nat → List Stage → Bool
  | _, _, [] => false
  | D, E, s :: rest => groupOk ms ops A E D s.group &&
    ((D ++ s.group).all fun i => !readB A i || s.again.contains i || E.any fun e => ahead ms i e) &&
    (match s.eff with
      | none => rest.isEmpty && (List.range ops.size).all fun i => (D ++ s.group).contains i
      | some e => effB ops A e && (E.all fun e' => ahead ms e' e) && !(D ++ s.group).contains e && (match ops[e]? with
          | some o => directOk o (D ++ s.group)
          | none => false) && (match s.pair with
            | none => stagesOk two ms ops A (D ++ s.group ++ [e]) (E ++ [e]) rest
            | some e' => two && effB ops A e' && (E.all fun x => ahead ms x e') && !(D ++ s.group).contains e' && (match ops[e']? with
              | some o => directOk o (D ++ s.group)
              | none => false) && storeB A e && storeB A e' && !(e == e') && ((D ++ s.group).all fun i => !readB A i || (ahead ms i e && ahead ms i e')) &&
              (List.range ops.size).all fun i => (D ++ s.group).contains i || i == e || i == e'))

/-- A region that draws, and the stages in which it is taken. -/
def drawOk (ops : Array Oper) (A : List AInstr) (l : List Stage) : Bool :=
  tempsOk (order ops) ops A && stagesOk true (order ops) ops A [] [] l

def compIn (P : Program) (code : Ann → ACode) : Ann → ACode
  | .keep ks a => .keep ks (compIn P code a)
  | a => code a

def comp (P : Program) : Code → Ann → ACode
  | .skip, _ => .skip
  | .label _, _ => .skip
  | .region _ ops d, a => if d then compIn P (fun a => match a with
      | .draw l => if drawOk ops (ops.toList.map (compInstr P ops)) l && P.follows .mixedOrders then .draw (ops.toList.map (compInstr P ops)) l else .bad
      | _ => .bad) a
    else compIn P (fun _ => .ops (ops.toList.map (compInstr P ops))) a
  | .seq x y, a => compIn P (fun a => .seq (comp P x a.left) (comp P y a.right)) a
  | .cond c x y, a => compIn P (fun a => .cond c (comp P x a.left) (comp P y a.right)) a
  | .block id x, a => compIn P (fun a => .block id (comp P x a.down)) a
  | .loop x, a => compIn P (fun a => .loop (comp P x a.down)) a
  | .exit id, a => compIn P (fun _ => .exit id) a
  | .ret, a => compIn P (fun _ => .ret) a
  | _, _ => .bad

inductive ARes where
  | tmp (t : Nat)
  | cell1 (t : Nat)
  | cellN (n t : Nat)

structure AFunc where
  n : Nat
  body : ACode
  results : List ARes

def resA (t : VT) (h : H) : ARes → Option Value
  | .tmp i => some (t.get i)
  | .cell1 i => load1 h (t.get i)
  | .cellN n i => loadN h n (t.get i)

def resList (t : VT) (h : H) : List ARes → Option (List Value)
  | [] => some []
  | r :: l => match resA t h r, resList t h l with
    | some v, some vs => some (v :: vs)
    | _, _ => none

def resultsA (t : VT) (h : H) (l : List ARes) : Option Value :=
  match resList t h l with
  | some [v] => some v
  | some vs => some (.tuple vs.toArray)
  | none => none

def initT : List Value → Nat → VT
  | [], _ => .nil
  | v :: l, k => (initT l (k + 1)).set k v

/-- A table of functions; k: how deep calls go, m: how many rounds loops go. ext: what is told of functions by other means. -/
def callA (tab : FuncId → Option AFunc) (ext : FF) (m : Nat) : Nat → FF
  | 0 => fun _ _ _ => none
  | k + 1 => fun f args h => match tab f with
    | some af => if args.length ≤ af.n then
        match codeA (callA tab ext m k) af.n m af.body (initT args 0) h with
        | some (.exit _, _, _) => none
        | some (_, t, h') => match resultsA t h' af.results with
          | some v => some (v, h')
          | none => none
        | none => none
      else none
    | none => ext f args h

def compRes (P : Program) : List ResultVar → Option (List ARes)
  | [] => some []
  | .tmp t :: l => (compRes P l).map (.tmp t :: ·)
  | .cell a t :: l => match aggB P t, sizeB P t with
    | some false, _ => (compRes P l).map (.cell1 a :: ·)
    | some true, some n => (compRes P l).map (.cellN n a :: ·)
    | _, _ => none

def compF (P : Program) (fn : Func) (ann : Ann) : Option AFunc :=
  match fn.body, compRes P fn.results.toList with
  | some c, some rs => some ⟨fn.ntmps, comp P c ann, rs⟩
  | _, _ => none

end Go.Abs
