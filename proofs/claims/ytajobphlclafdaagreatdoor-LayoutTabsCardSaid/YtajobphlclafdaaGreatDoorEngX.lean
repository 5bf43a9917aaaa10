import Derived.Test.YtajobphlclafdaaGreatDoorEngK
set_option linter.unusedVariables false
set_option linter.unusedSimpArgs false
/-! What is told of some functions of the library by other means than their text. -/
namespace Go.Abs

def bytesOf : List Value → Option (List UInt8)
  | [] => some []
  | .int .u8 (.ofNat n) :: l => if n < 256 then match bytesOf l with
    | some bs => some (UInt8.ofNat n :: bs)
    | none => none
    else none
  | _ :: _ => none

/-- strings.Builder's copyCheck: the first time the builder notes its own place; L: where a builder may lie: a variable's type, its cells, the builder's first one. -/
def isIn (L : List (Nat × Nat × Nat)) (e len o : Nat) : Bool := L.any fun t => Nat.beq t.1 e && Nat.beq t.2.1 len && Nat.beq t.2.2 o
def oCopyCheck (L : List (Nat × Nat × Nat)) (args : List Value) (h : H) : Option (Value × H) :=
  match args with
  | [.pointer (some ⟨b, o, none⟩)] => match h.get b with
    | some (.cells c e m) => match c[o]? with
      | some (.pointer none) => if m = .var ∧ isIn L e c.length o = true then some (undef, h.set b (.cells (c.set o (.pointer (some ⟨b, o, none⟩))) e .var)) else none
      | some (.pointer (some ⟨b', o', none⟩)) => if b = b' ∧ o = o' then some (undef, h) else none
      | _ => none
    | _ => none
  | _ => none

/-- strings.Builder's String. U: the type of bytes. -/
def oString (U : TypeId) (args : List Value) (h : H) : Option (Value × H) :=
  match args with
  | [.pointer (some ⟨b, o, none⟩)] => match h.get b with
    | some (.cells c _ _) => match c[o + 1]? with
      | some (.slice none 0 0) => some (.string ⟨#[]⟩, h)
      | some (.slice (some ⟨b', o', none⟩) n e) => match h.get b' with
        | some (.cells c' t m) => if n ≠ 0 ∧ e = 1 ∧ t = U ∧ m ≠ .frg ∧ o' + n ≤ c'.length ∧ n ≤ 16777216 then
            match bytesOf ((c'.drop o').take n) with
            | some bs => some (.string ⟨bs.toArray⟩, h.set b' (.cells c' t .frz))
            | none => none
          else none
        | _ => none
      | _ => none
    | _ => none
  | _ => none

/-- Where a byte stands first. -/
def posOf (c : UInt8) : List UInt8 → Nat → Int
  | [], _ => -1
  | b :: l, i => if b = c then i else posOf c l (i + 1)

def oIndexByte (args : List Value) (h : H) : Option (Value × H) :=
  match args with
  | [.string s, .int .u8 (.ofNat c)] => if c < 256 then some (.int .i64 (posOf (UInt8.ofNat c) s.data.toList 0), h) else none
  | _ => none

/-- How often. -/
def cntOf (c : UInt8) : List UInt8 → Nat → Nat
  | [], n => n
  | b :: l, n => cntOf c l (if b = c then n + 1 else n)

def oCount (args : List Value) (h : H) : Option (Value × H) :=
  match args with
  | [.string s, .int .u8 (.ofNat c)] => if c < 256 then some (.int .i64 (cntOf (UInt8.ofNat c) s.data.toList 0), h) else none
  | _ => none

/-- The numbers of functions and types. -/
structure Nums where
  check : Nat
  str : Nat
  index : Nat
  count : Nat
  T : List (Nat × Nat × Nat)
  U : Nat

def extA (N : Nums) : FF := fun f args h =>
  if f = N.index then oIndexByte args h else if f = N.count then oCount args h else if f = N.check then oCopyCheck N.T args h else if f = N.str then oString N.U args h else none

end Go.Abs
