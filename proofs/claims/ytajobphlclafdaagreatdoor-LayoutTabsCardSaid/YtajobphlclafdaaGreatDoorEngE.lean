import Derived.Test.YtajobphlclafdaaGreatDoorEngD
import Derived.Laws.Strings
import Derived.Laws.Strings2
set_option linter.unusedVariables false
set_option linter.unusedSimpArgs false
/-! Operations without memory: numbers, strings, aggregates, slices of slices. -/
namespace Go.Abs
open Go.RowKit (Below)
section
variable {P : Program} {B0 : Nat} {β : Ren} {h : H} {w : World}

/-! ### numbers and strings -/

def binI (op : BinOp) (k : IntKind) (a b : Int) : Option Value :=
  match op with
  | .add => some (.int k (k.wrap (a + b)))
  | .sub => some (.int k (k.wrap (a - b)))
  | .mul => some (.int k (k.wrap (a * b)))
  | .quo => if b = 0 then none else some (.int k (k.wrap (a.tdiv b)))
  | .rem => if b = 0 then none else some (.int k (a.tmod b))
  | .and => some (.int k (k.wrap (BitVec.ofInt k.bits a &&& BitVec.ofInt k.bits b).toNat))
  | .or => some (.int k (k.wrap (BitVec.ofInt k.bits a ||| BitVec.ofInt k.bits b).toNat))
  | .xor => some (.int k (k.wrap (BitVec.ofInt k.bits a ^^^ BitVec.ofInt k.bits b).toNat))
  | .andNot => some (.int k (k.wrap (BitVec.ofInt k.bits a &&& ~~~ BitVec.ofInt k.bits b).toNat))
  | .eql => some (.bool (a == b))
  | .neq => some (.bool (a != b))
  | .lss => some (.bool (a < b))
  | .leq => some (.bool (a ≤ b))
  | .gtr => some (.bool (a > b))
  | .geq => some (.bool (a ≥ b))
  | .shl => if b < 0 then none else some (.int k (k.wrap (a * 2 ^ (min b.toNat k.bits))))
  | .shr => if b < 0 then none else some (.int k (a.fdiv (2 ^ (min b.toNat k.bits))))

def isShift : BinOp → Bool
  | .shl | .shr => true
  | _ => false

def binS (op : BinOp) (a b : ByteArray) : Option Value :=
  match op with
  | .add => if ((a.size + b.size : Nat) : Int) > IntKind.i64.max then none else some (.string (a ++ b))
  | .eql => some (.bool (a.data.toList == b.data.toList))
  | .neq => some (.bool (!(a.data.toList == b.data.toList)))
  | _ => none

def bin (op : BinOp) (x y : Value) : Option Value :=
  match x, y with
  | .int k a, .int k' b => if isShift op || decide (k = k') then binI op k a b else none
  | .string a, .string b => binS op a b
  | _, _ => none

theorem bin_run {op : BinOp} {t : TypeId} {x y v : Value} (hv : bin op x y = some v) : (binOp op t x y).run P w = .ok v w := by
  unfold bin at hv
  split at hv
  · rename_i k a k' b
    split at hv
    · rename_i hk
      cases op
      case shl =>
        simp only [binI] at hv
        split at hv
        · cases hv
        · rename_i hb; cases hv; simp [binOp, Op.shift, hb]
      case shr =>
        simp only [binI] at hv
        split at hv
        · cases hv
        · rename_i hb; cases hv; simp [binOp, Op.shift, hb]
      all_goals
        have hk' : k = k' := by simpa [isShift] using hk
        subst hk'
        simp only [binI] at hv
      case quo =>
        split at hv
        · cases hv
        · rename_i hb; cases hv; simp [binOp, Op.intDiv, hb]
      case rem =>
        split at hv
        · cases hv
        · rename_i hb; cases hv; simp [binOp, Op.intDiv, hb]
      all_goals
        cases hv
        simp only [binOp, Op.intArith, Op.intBits, Op.intCmp, ne_eq, not_true_eq_false, if_false]
        rfl
    · cases hv
  · rename_i a b
    cases op <;> simp only [binS] at hv <;> first | (cases hv; done) | skip
    case add =>
      split at hv
      · cases hv
      · rename_i hb; cases hv; simp only [binOp, Op.stringOp]; rw [if_neg hb]; rfl
    all_goals (cases hv; simp [binOp, Op.stringOp, ByteArray.toList_eq])
  · cases hv

/-- 'binOp' behind its guard on nil interface values. -/
theorem bin_guard {op : BinOp} {t : TypeId} {x y : Operand} {a b v : Value} (hv : bin op a b = some v) : (eqGuard op t x y a b).run P w = .ok () w := by
  unfold bin at hv
  unfold eqGuard
  split at hv
  · split <;> rfl
  · split <;> rfl
  · cases hv

theorem bin_flat {op : BinOp} {x y v : Value} (hv : bin op x y = some v) : flat1 v = true := by
  unfold bin at hv
  split at hv
  · split at hv
    · cases op <;> simp only [binI] at hv <;> first | (cases hv; rfl) | (split at hv <;> cases hv; rfl)
    · cases hv
  · cases op <;> simp only [binS] at hv <;> first | (cases hv; done) | (cases hv; rfl) | (split at hv <;> cases hv; rfl)
  · cases hv

theorem bin_args {op : BinOp} {x y v x' y' : Value} (hv : bin op x y = some v) (hx : VRel β x x') (hy : VRel β y y') : x' = x ∧ y' = y := by
  unfold bin at hv
  split at hv
  · exact ⟨hx.of_int, hy.of_int⟩
  · exact ⟨hx.of_string, hy.of_string⟩
  · cases hv

theorem sim_bin (hr : HRel B0 β h w) {op : BinOp} {t : TypeId} {ox oy : Operand} {x y x' y' v : Value} (hx : VRel β x x') (hy : VRel β y y') (hv : bin op x y = some v) :
    Sim P B0 β h w (do eqGuard op t ox oy x' y'; binOp op t x' y') v h := by
  obtain ⟨rfl, rfl⟩ := bin_args hv hx hy
  exact Sim.pure hr (v' := v) (by rw [Sem.run_bind, bin_guard hv]; exact bin_run hv) (VRel.of_flat1 (bin_flat hv))

def un (op : UnOp) (x : Value) : Option Value :=
  match op, x with
  | .neg, .int k n => some (.int k (k.wrap (0 - n)))
  | .xor, .int k n => some (.int k (k.wrap (BitVec.ofInt k.bits (if k.signed then -1 else k.max) ^^^ BitVec.ofInt k.bits n).toNat))
  | .not, .bool b => some (.bool !b)
  | _, _ => none

theorem sim_un (hr : HRel B0 β h w) {op : UnOp} {x x' v : Value} (hx : VRel β x x') (hv : un op x = some v) : Sim P B0 β h w (Op.unary op x') v h := by
  unfold un at hv
  split at hv
  · obtain rfl := hx.of_int; cases hv; exact Sim.pure hr rfl (.int _ _)
  · obtain rfl := hx.of_int; cases hv; exact Sim.pure hr rfl (.int _ _)
  · obtain rfl := hx.of_bool; cases hv; exact Sim.pure hr rfl (.bool _)
  · cases hv

/-- Comparing with ==: addresses against nil; values without addresses; aggregates of such. -/
def isNil : Value → Option Bool
  | .pointer a => some a.isNone
  | .slice a _ _ => some a.isNone
  | .map a => some a.isNone
  | .nilFunc => some true
  | .func .. => some false
  | _ => none

/-- a piece of a string -/
def bext (s : ByteArray) (l h : Nat) : ByteArray := ⟨((s.data.toList.drop l).take (h - l)).toArray⟩
theorem bext_eq (s : ByteArray) (l h : Nat) : bext s l h = s.extract l h := by
  have := ByteArray.extract_mk s.data.toList l h
  have e : (ByteArray.mk s.data.toList.toArray) = s := by cases s; simp
  rw [e] at this
  exact this.symm

def idxStr (x i : Value) : Option Value :=
  match x, i with
  | .string s, .int _ k => if 0 ≤ k then match s.data.toList[k.toNat]? with
    | some b => some (.int .u8 b.toNat)
    | none => none
    else none
  | _, _ => none

theorem sim_idxStr (hr : HRel B0 β h w) {t : TypeId} {x x' i i' v : Value} (ht : P.underlying t = some .string) (hx : VRel β x x') (hi : VRel β i i') (hv : idxStr x i = some v) :
    Sim P B0 β h w (Instr.index t x' i') v h := by
  unfold idxStr at hv
  split at hv
  · obtain rfl := hx.of_string; obtain rfl := hi.of_int
    rename_i s kk k
    split at hv
    · rename_i hk
      split at hv
      · rename_i b hb
        cases hv
        refine Sim.pure hr (v' := .int .u8 b.toNat) ?_ (.int _ _)
        have : s[k.toNat]? = some b := by
          obtain ⟨h1, h2⟩ := List.getElem?_eq_some_iff.1 hb
          have h3 : k.toNat < s.size := by simpa using h1
          rw [ByteArray.getElem?_lt' s _ h3]
          congr 1
        simp only [Instr.index, asIntOf, Sem.run_bind, Sem.run_pure, Result.andThen_ok, run_underlying ht, if_pos hk, this]
      · cases hv
    · cases hv
  · cases hv

/-- The bounds of a cut: of a length n. -/
def cutAt (n : Nat) (lo hi : Option Value) : Option (Nat × Nat) :=
  match hi with
  | some (.int _ b) => if 0 ≤ b ∧ b ≤ n then
      match lo with
      | some (.int _ a) => if 0 ≤ a ∧ a ≤ b then some (a.toNat, b.toNat) else none
      | some _ => none
      | none => some (0, b.toNat)
    else none
  | some _ => none
  | none =>
    match lo with
    | some (.int _ a) => if 0 ≤ a ∧ a ≤ n then some (a.toNat, n) else none
    | some _ => none
    | none => some (0, n)

def ORelO (β : Ren) : Option Value → Option Value → Prop
  | none, none => True
  | some a, some b => VRel β a b
  | _, _ => False

theorem cutAt_le {n l u : Nat} {lo hi : Option Value} (hv : cutAt n lo hi = some (l, u)) : l ≤ u ∧ u ≤ n := by
  unfold cutAt at hv
  repeat' split at hv
  all_goals first | (cases hv; done) | (cases hv; omega)

theorem sliceBound_run {x : Value} {k : IntKind} {i : Int} {y : Nat} {c : BoundsCode} (hx : x = .int k i) (h : 0 ≤ i ∧ i ≤ y) : (Instr.sliceBound x y c).run P w = .ok i.toNat w := by
  subst hx
  simp only [Instr.sliceBound, asIntOf, Sem.run_bind, Sem.run_pure, Result.andThen_ok, if_pos h]

theorem cutAt_run {isS : Bool} {n cap l u : Nat} {lo hi lo' hi' : Option Value} (hcap : n ≤ cap) (hl : ORelO β lo lo') (hh : ORelO β hi hi') (hv : cutAt n lo hi = some (l, u)) :
    (Instr.sliceBounds isS n cap lo' hi' none).run P w = .ok (l, u, cap) w := by
  unfold cutAt at hv
  split at hv
  · rename_i k b
    cases hi' with
    | none => exact hh.elim
    | some hv' =>
      obtain rfl := VRel.of_int hh
      split at hv
      · rename_i hb
        have hb' : 0 ≤ b ∧ b ≤ (cap : Int) := ⟨hb.1, by omega⟩
        split at hv
        · rename_i k2 a
          cases lo' with
          | none => exact hl.elim
          | some lv =>
            obtain rfl := VRel.of_int hl
            split at hv
            · rename_i ha
              cases hv
              have ha' : 0 ≤ a ∧ a ≤ ((b.toNat : Nat) : Int) := ⟨ha.1, by omega⟩
              simp only [Instr.sliceBounds, Sem.run_bind, Sem.run_pure, Result.andThen_ok, sliceBound_run rfl hb', sliceBound_run rfl ha']
            · cases hv
        · cases hv
        · cases lo' with
          | none => cases hv; simp only [Instr.sliceBounds, Sem.run_bind, Sem.run_pure, Result.andThen_ok, sliceBound_run rfl hb']
          | some _ => exact hl.elim
      · cases hv
  · cases hv
  · cases hi' with
    | some _ => exact hh.elim
    | none =>
      split at hv
      · rename_i k2 a
        cases lo' with
        | none => exact hl.elim
        | some lv =>
          obtain rfl := VRel.of_int hl
          split at hv
          · rename_i ha
            cases hv
            simp only [Instr.sliceBounds, Sem.run_bind, Sem.run_pure, Result.andThen_ok, sliceBound_run rfl ha]
          · cases hv
      · cases hv
      · cases lo' with
        | none => cases hv; simp only [Instr.sliceBounds, Sem.run_bind, Sem.run_pure, Result.andThen_ok]
        | some _ => exact hl.elim

def cutStr (x : Value) (lo hi : Option Value) : Option Value :=
  match x with
  | .string s => match cutAt s.size lo hi with
    | some (l, u) => some (.string (bext s l u))
    | none => none
  | _ => none

theorem sim_cutStr (hr : HRel B0 β h w) {t : TypeId} {x x' v : Value} {lo hi lo' hi' : Option Value} (ht : P.underlying t = some .string) (hx : VRel β x x') (hl : ORelO β lo lo') (hh : ORelO β hi hi')
    (hv : cutStr x lo hi = some v) : Sim P B0 β h w (Instr.sliceAt t x' lo' hi' none) v h := by
  unfold cutStr at hv
  split at hv
  · obtain rfl := hx.of_string
    rename_i s
    split at hv
    · rename_i l u hc
      cases hv
      refine Sim.pure hr (v' := .string (bext s l u)) ?_ (.string _)
      simp only [Instr.sliceAt, Instr.slice, Sem.run_bind, run_underlying ht, Result.andThen_ok, Option.isSome_none, Bool.false_eq_true, if_false, Sem.run_pure, cutAt_run (Nat.le_refl _) hl hh hc, bext_eq]
    · cases hv
  · cases hv

def cutSl (esz : Nat) (x : Value) (lo hi : Option Value) : Option Value :=
  match x with
  | .slice none _ _ => match cutAt 0 lo hi with
    | some _ => some (.slice none 0 0)
    | none => none
  | .slice (some ⟨b, o, none⟩) n e => if e = esz then
      match cutAt n lo hi with
      | some (l, u) => some (.slice (some ⟨b, o + l * esz, none⟩) (u - l) esz)
      | none => none
    else none
  | _ => none

theorem sim_cutSl (hr : HRel B0 β h w) {t : TypeId} {n : Nat} {x x' v : Value} {lo hi lo' hi' : Option Value} (ht : sliceElem P t n = true) (hx : VRel β x x') (hl : ORelO β lo lo') (hh : ORelO β hi hi')
    (hv : cutSl n x lo hi = some v) : Sim P B0 β h w (Instr.sliceAt t x' lo' hi' none) v h := by
  unfold sliceElem at ht
  split at ht
  case h_2 => cases ht
  rename_i e hu
  have hsz := sizeB_run (eq_of_beq ht) w
  unfold cutSl at hv
  split at hv
  · split at hv
    · rename_i q hc
      cases hv
      obtain ⟨l, u⟩ := q
      cases hx
      have hle := cutAt_le hc
      have h0 : l = 0 := by omega
      have h1 : u = 0 := by omega
      subst h0; subst h1
      refine Sim.pure hr (v' := .slice none 0 0) ?_ .nilslice
      simp only [Instr.sliceAt, Instr.slice, Sem.run_bind, run_underlying hu, Result.andThen_ok, cutAt_run (Nat.le_refl _) hl hh hc, hsz, Sem.run_pure, if_true, Nat.sub_self]
    · cases hv
  · rename_i b o m e'
    split at hv
    · rename_i he
      subst he
      split at hv
      · rename_i l u hc
        cases hv
        have hle := cutAt_le hc
        obtain ⟨p, hb, ⟨cc, rfl, hl2, he⟩ | ⟨a, hm, rfl, ho⟩⟩ := slOf_rel (b := b) (o := o) (n := m) (e := e') hx rfl
        · by_cases hcl : cc = l
          · subst hcl
            refine Sim.pure hr (v' := .slice (some ⟨p.blk, p.base + o, none⟩) 0 0) ?_ ?_
            · simp only [Instr.sliceAt, Instr.slice, Sem.run_bind, run_underlying hu, Result.andThen_ok, cutAt_run hl2 hl hh hc, hsz, Sem.run_pure, if_true, Nat.sub_self]
              rw [show u - cc = 0 by omega]
            · rw [show u - cc = 0 by omega]
              exact .slice0 _ hb he
          · refine Sim.pure hr (v' := .slice (some ⟨p.blk, p.base + (o + l * e'), none⟩) (u - l) (cc - l)) ?_ ?_
            · simp only [Instr.sliceAt, Instr.slice, Sem.run_bind, run_underlying hu, Result.andThen_ok, cutAt_run hl2 hl hh hc, hsz, Sem.run_pure, if_neg hcl, Option.map_some, add_at, Nat.add_assoc]
            · refine .slice _ hb (by omega) ?_
              rw [← he, Nat.add_assoc, ← Nat.add_mul]
              congr 2; omega
        · subst hm
          have h0 : l = 0 := by omega
          have h1 : u = 0 := by omega
          subst h0; subst h1
          refine Sim.pure hr (v' := .slice (some a) 0 0) ?_ (.slice0 a hb (by simpa using ho))
          simp only [Instr.sliceAt, Instr.slice, Sem.run_bind, run_underlying hu, Result.andThen_ok, cutAt_run (Nat.le_refl _) hl hh hc, hsz, Sem.run_pure, if_true, Nat.sub_self]
      · cases hv
    · cases hv
  · cases hv

/-! ### aggregates -/

/-- A field, an element of an aggregate: one cell (none) or some. -/
def part1 (x : Value) (off : Nat) : Option Value :=
  match x with
  | .agg cs => cs.toList[off]?
  | _ => none
def partN (x : Value) (off n : Nat) : Option Value :=
  match x with
  | .agg cs => some (.agg ((cs.toList.drop off).take n).toArray)
  | _ => none

def fieldTy (P : Program) (s : TypeId) (f : Nat) : Option (TypeId × Nat) :=
  match P.underlying s with
  | some (.struct fs) => (fs[f]?).map fun fd => (fd.type, fd.offset)
  | _ => none

theorem part_run1 {t : TypeId} {cs : Array Value} {off : Nat} {v : Value} (ht : aggB P t = some false) (hv : cs[off]? = some v) : (part t cs off).run P w = .ok v w := by
  simp [part, aggB_run ht, hv]
theorem part_runN {t : TypeId} {cs : Array Value} {off n : Nat} (ht : aggB P t = some true) (hn : sizeB P t = some n) : (part t cs off).run P w = .ok (.agg (cs.extract off (off + n))) w := by
  simp [part, aggB_run ht, sizeB_run hn]

theorem sim_field1 (hr : HRel B0 β h w) {s : TypeId} {f off : Nat} {ft : TypeId} {x x' v : Value} (hs : fieldTy P s f = some (ft, off)) (ht : aggB P ft = some false) (hx : VRel β x x') (hv : part1 x off = some v) :
    Sim P B0 β h w (Instr.field s x' f) v h := by
  unfold fieldTy at hs
  split at hs
  case h_2 => cases hs
  rename_i fs hu
  cases hf : fs[f]? with
  | none => rw [hf] at hs; cases hs
  | some fd =>
    rw [hf] at hs; cases hs
    unfold part1 at hv
    split at hv
    · rename_i cs
      obtain ⟨c', rfl, hl⟩ := hx.of_agg
      obtain ⟨v', h1, h2⟩ := hl.get hv
      refine Sim.pure hr (v' := v') ?_ h2
      rw [Array.getElem?_toList] at h1
      simp only [Instr.field, Sem.run_bind, run_underlying hu, Result.andThen_ok, hf, asAgg, Sem.run_pure, part_run1 ht h1]
    · cases hv

theorem sim_fieldN (hr : HRel B0 β h w) {s : TypeId} {f off n : Nat} {ft : TypeId} {x x' v : Value} (hs : fieldTy P s f = some (ft, off)) (ht : aggB P ft = some true) (hn : sizeB P ft = some n) (hx : VRel β x x') (hv : partN x off n = some v) :
    Sim P B0 β h w (Instr.field s x' f) v h := by
  unfold fieldTy at hs
  split at hs
  case h_2 => cases hs
  rename_i fs hu
  cases hf : fs[f]? with
  | none => rw [hf] at hs; cases hs
  | some fd =>
    rw [hf] at hs; cases hs
    unfold partN at hv
    split at hv
    · rename_i cs
      cases hv
      obtain ⟨c', rfl, hl⟩ := hx.of_agg
      refine Sim.pure hr (v' := .agg (c'.extract fd.offset (fd.offset + n))) ?_ (VRel.agg_iff ?_)
      · simp only [Instr.field, Sem.run_bind, run_underlying hu, Result.andThen_ok, hf, asAgg, Sem.run_pure, part_runN ht hn]
      · have := (hl.drop fd.offset).take n
        simpa [Array.toList_extract, List.extract] using this
    · cases hv

end
end Go.Abs
