import Derived.Test.YtajobphlclafdaaGreatDoorEngG
import Derived.IntWalk
set_option linter.unusedVariables false
set_option linter.unusedSimpArgs false
/-! copy, make, len, iterators over strings, small operations. -/
namespace Go.Abs
open Go.RowKit (Below)
section
variable {P : Program} {B0 : Nat} {β : Ren} {h : H} {w : World}

/-! ### copy -/
def copyA (esz : Nat) (h : H) (d x : Value) : Option (Value × H) :=
  match srcLen x with
  | none => none
  | some n =>
    match d with
    | .slice none _ _ => some (.int .i64 0, h)
    | .slice (some ⟨b, o, none⟩) m e =>
      if e = esz then
        match srcCells h esz (Nat.min n m) x with
        | none => none
        | some xs => match wr h b o xs with
          | some h' => some (.int .i64 (Nat.min n m : Nat), h')
          | none => none
      else none
    | _ => none

theorem sim_copy (hr : HRel B0 β h w) {dType : TypeId} {ts : Array TypeId} {ty : TypeId} {d d' x x' v : Value} {e : TypeId} {esz : Nat} {h' : H}
    (ht : ts[0]? = some dType) (hs : sliceInfo P dType = some (e, esz)) (hd : VRel β d d') (hx : VRel β x x') (hv : copyA esz h d x = some (v, h')) :
    Sim P B0 β h w (Builtin.copy_ ts ty #[d', x']) v h' := by
  obtain ⟨hu, hsz⟩ := sliceInfo_spec hs
  unfold copyA at hv
  cases hsl : srcLen x with
  | none => rw [hsl] at hv; cases hv
  | some n =>
    rw [hsl] at hv
    have hlen := srcLen_rel (P := P) (w := w) hx hsl
    have ha0 : (#[d', x'] : Array Value)[0]? = some d' := rfl
    have ha1 : (#[d', x'] : Array Value)[1]? = some x' := rfl
    simp only [] at hv
    split at hv
    · cases hv
      cases hd
      have h0 := firstCells_zero (P := P) (w := w) hx hsl esz
      refine Sim.pure hr (v' := .int .i64 0) ?_ (.int _ _)
      unfold Builtin.copy_
      simp only [ht, ha0, ha1, Sem.run_bind, run_underlying hu, Result.andThen_ok, hlen, sizeB_run hsz, show Nat.min n 0 = 0 from Nat.min_zero n, h0, Sem.run_pure]
      rfl
    · rename_i b o m e'
      split at hv
      · rename_i he'
        subst he'
        split at hv
        · cases hv
        · rename_i xs hsc
          split at hv
          · rename_i hw
            cases hv
            obtain ⟨xs', hx1, _, hx2, hx3⟩ := srcCells_rel (P := P) hr hx hsc
            obtain ⟨p, hb, ⟨cc, rfl, hl2, he⟩ | ⟨a, hm, rfl, ho⟩⟩ := slOf_rel (b := b) (o := o) (n := m) (e := e') hd rfl
            · obtain ⟨w', r1, r2⟩ := wr_rel P hr hb hw hx2
              refine ⟨.int .i64 (Nat.min n m : Nat), w', β, ?_, .int _ _, r2⟩
              unfold Builtin.copy_
              simp only [ht, ha0, ha1, Sem.run_bind, run_underlying hu, Result.andThen_ok, hlen, sizeB_run hsz, hx1, r1, Sem.run_pure]
              rfl
            · subst hm
              have hx0 : xs = [] := by
                cases xs with
                | nil => rfl
                | cons a l => simp at hx3
              subst hx0
              cases hx2
              obtain ⟨w', r1, r2⟩ := wr_rel P hr hb hw .nil
              simp only [storeCells, Sem.run_pure, Result.ok.injEq, true_and] at r1
              subst r1
              refine ⟨.int .i64 (Nat.min n 0 : Nat), w, β, ?_, .int _ _, r2⟩
              unfold Builtin.copy_
              simp only [ht, ha0, ha1, Sem.run_bind, run_underlying hu, Result.andThen_ok, hlen, sizeB_run hsz, hx1, storeCells, Sem.run_pure]
              rfl
          · cases hv
      · cases hv
    · cases hv


/-! ### len -/
def lenA (h : H) (x : Value) : Option Value :=
  match x with
  | .string s => some (.int .i64 s.size)
  | .slice none _ _ => some (.int .i64 0)
  | .slice (some _) n _ => some (.int .i64 n)
  | .map none => some (.int .i64 0)
  | .map (some b) => match h.get b with
    | some (.map es) => some (.int .i64 es.length)
    | _ => none
  | _ => none

inductive LenTy | str | sl | map
def lenTy (P : Program) (ts : Array TypeId) : Option LenTy :=
  match ts[0]? with
  | some t => match P.underlying t with
    | some .string => some .str
    | some (.slice _) => some .sl
    | some (.map _ _) => some .map
    | _ => none
  | none => none

def lenFit (k : LenTy) (x : Value) : Bool :=
  match k, x with
  | .str, .string _ | .sl, .slice .. | .map, .map _ => true
  | _, _ => false

theorem ERel.length {l : List (Value × Value)} {l' : List MapEntry} (h : ERel β l l') : l.length = l'.length := by
  induction h with
  | nil => rfl
  | cons _ _ _ ih => simp [ih]

theorem sim_len (hr : HRel B0 β h w) {ts : Array TypeId} {ty : TypeId} {x x' v : Value} {k : LenTy} (ht : lenTy P ts = some k) (hk : lenFit k x = true)
    (hx : VRel β x x') (hv : lenA h x = some v) : Sim P B0 β h w (Builtin.len_ ts ty #[x']) v h := by
  unfold lenTy at ht
  split at ht
  case h_2 => cases ht
  rename_i t h0
  have ha0 : (#[x'] : Array Value)[0]? = some x' := rfl
  unfold lenA at hv
  split at hv
  · obtain rfl := hx.of_string
    split at ht <;> first | (cases ht; done) | skip
    · rename_i hu
      cases ht; cases hv
      refine Sim.pure hr ?_ (.int _ _)
      unfold Builtin.len_
      simp only [h0, ha0, Sem.run_bind, run_underlying hu, Result.andThen_ok, Sem.run_pure]
      rfl
    all_goals (cases ht; cases hk)
  · split at ht <;> first | (cases ht; done) | skip
    · cases ht; cases hk
    · rename_i hu
      cases ht; cases hv; cases hx
      refine Sim.pure hr ?_ (.int _ _)
      unfold Builtin.len_
      simp only [h0, ha0, Sem.run_bind, run_underlying hu, Result.andThen_ok, Sem.run_pure]
      rfl
    · cases ht; cases hk
  · split at ht <;> first | (cases ht; done) | skip
    · cases ht; cases hk
    · rename_i hu
      cases ht; cases hv
      cases hx
      all_goals
        refine Sim.pure hr ?_ (.int _ _)
        unfold Builtin.len_
        simp only [h0, ha0, Sem.run_bind, run_underlying hu, Result.andThen_ok, Sem.run_pure]
        rfl
    · cases ht; cases hk
  · split at ht <;> first | (cases ht; done) | skip
    · cases ht; cases hk
    · cases ht; cases hk
    · rename_i hu
      cases ht; cases hv; cases hx
      refine Sim.pure hr ?_ (.int _ _)
      unfold Builtin.len_
      simp only [h0, ha0, Sem.run_bind, run_underlying hu, Result.andThen_ok, Sem.run_pure]
      rfl
  · rename_i b
    split at ht <;> first | (cases ht; done) | skip
    · cases ht; cases hk
    · cases ht; cases hk
    · rename_i hu
      cases ht
      split at hv
      · rename_i es hg
        cases hv
        obtain ⟨p, hb, rfl⟩ := hx.of_map
        obtain ⟨en, ck, es', e1, e2, e3⟩ := hr.obj b _ p hg hb
        refine Sim.pure hr (v' := .int .i64 es.length) ?_ (.int _ _)
        unfold Builtin.len_
        have : en.size = es.length := by rw [e2.length_eq, e3.length]; simp
        simp only [h0, ha0, Sem.run_bind, run_underlying hu, Result.andThen_ok, Sem.run_pure, getObj, Sem.run, e1, goInt, this]
      · cases hv
  · cases hv

/-! ### strings, rune by rune -/
def rangeStr (h : H) (x : Value) : Option (Value × H) :=
  match x with
  | .string s => some (.pointer (some ⟨h.next, 0, none⟩), h.new (.siter s 0))
  | _ => none

theorem sim_rangeStr (hr : HRel B0 β h w) {t : TypeId} {x x' v : Value} {h' : H} (ht : P.underlying t = some .string) (hx : VRel β x x') (hv : rangeStr h x = some (v, h')) :
    Sim P B0 β h w (Instr.range t x') v h' := by
  unfold rangeStr at hv
  split at hv
  · obtain rfl := hx.of_string
    rename_i s
    cases hv
    refine ⟨.pointer (some ⟨w.heap.size, 0, none⟩), w.alloc (.stringIter s 0), β.put h.next ⟨w.heap.size, 0, 0⟩, ?_, VRel.ptr (p := ⟨w.heap.size, 0, 0⟩) (Ren.put_same _ _ _), Go1.new hr _ _ _ ⟨rfl, ?_⟩ (by intro c e; simp)⟩
    · simp only [Instr.range, Sem.run_bind, run_underlying ht, Result.andThen_ok, Sem.run_pure, run_newObj]
      rfl
    · show (w.heap.push _)[w.heap.size]? = _
      rw [Array.getElem?_push, if_pos rfl]
  · cases hv

def nextStr (h : H) (it : Value) : Option (Value × H) :=
  match ptrOf it with
  | some (b, 0) => match h.get b with
    | some (.siter s pos) =>
      if pos < s.size then
        let r := Utf8.decode s pos
        some (.tuple #[.bool true, .int .i64 pos, .int .i32 r.1], h.set b (.siter s (pos + r.2)))
      else some (.tuple #[.bool false], h)
    | _ => none
  | _ => none

theorem sim_nextStr (hr : HRel B0 β h w) {ty : TypeId} {it it' v : Value} {h' : H} (hx : VRel β it it') (hv : nextStr h it = some (v, h')) :
    Sim P B0 β h w (Instr.next it' true ty) v h' := by
  unfold nextStr at hv
  split at hv
  · rename_i b hp
    obtain ⟨p, hb, rfl, rfl⟩ := ptrOf_rel hx hp
    split at hv
    · rename_i s pos hg
      obtain ⟨e1, e2⟩ := hr.obj b _ p hg hb
      rw [e1]
      split at hv
      · rename_i hpos
        cases hv
        refine ⟨.tuple #[.bool true, .int .i64 pos, .int .i32 (Utf8.decode s pos).1], { w with heap := w.heap.setIfInBounds p.blk (.stringIter s (pos + (Utf8.decode s pos).2)) }, β, ?_, ?_, ?_⟩
        · simp only [Instr.next, Sem.run_bind, getObj, Sem.run, e2, Result.andThen_ok, if_pos hpos, setObj]
          rfl
        · exact VRel.tuple_of (.cons (.bool _) (.cons (.int _ _) (.cons (.int _ _) .nil)))
        · have hlt := hr.glob b p hb
          refine Go1.set hr hg hb rfl ⟨e1, ?_⟩ (by intro c e; simp) ?_ ?_ rfl rfl rfl
          · simp [hlt]
          · intro k hk; simp [Ne.symm hk]
          · simp
      · rename_i hpos
        cases hv
        refine Sim.pure hr (v' := .tuple #[.bool false]) ?_ (VRel.tuple_of (.cons (.bool _) .nil))
        simp only [Instr.next, Sem.run_bind, getObj, Sem.run, e2, Result.andThen_ok, if_neg hpos]
        rfl
    · cases hv
  · cases hv

/-! ### small ones -/
def extractA (x : Value) (i : Nat) : Option Value :=
  match x with
  | .tuple vs => vs.toList[i]?
  | _ => none
theorem sim_extract (hr : HRel B0 β h w) {x x' v : Value} {i : Nat} (hx : VRel β x x') (hv : extractA x i = some v) : Sim P B0 β h w (Instr.extract x' i) v h := by
  unfold extractA at hv
  split at hv
  · rename_i vs
    have h0 : 0 < vs.size := by
      have := (List.getElem?_eq_some_iff.1 hv).1
      simp at this; omega
    obtain ⟨c', rfl, hl⟩ := hx.of_tuple h0
    obtain ⟨v', e1, e2⟩ := hl.get hv
    rw [Array.getElem?_toList] at e1
    exact Sim.pure hr (v' := v') (by simp [Instr.extract, e1]) e2
  · cases hv

def convIntA (k : IntKind) (x : Value) : Option Value :=
  match x with
  | .int _ n => some (.int k (k.wrap n))
  | _ => none
def convIntB (P : Program) (src dst : TypeId) : Option IntKind :=
  match P.underlying src, P.underlying dst with
  | some (.int _), some (.int k) => some k
  | _, _ => none
theorem sim_convInt (hr : HRel B0 β h w) {src dst : TypeId} {k : IntKind} {x x' v : Value} (ht : convIntB P src dst = some k) (hx : VRel β x x') (hv : convIntA k x = some v) :
    Sim P B0 β h w (convert src dst x') v h := by
  unfold convIntA at hv
  split at hv
  · obtain rfl := hx.of_int
    cases hv
    unfold convIntB at ht
    split at ht
    · rename_i h1 h2
      cases ht
      exact Sim.pure hr (by simp [convert, run_underlying h1, run_underlying h2, Conv.intToInt]) (.int _ _)
    · cases ht
  · cases hv

def nilCheckA (x : Value) : Option Value :=
  match x with
  | .pointer (some a) => some (.pointer (some a))
  | _ => none

/-- == and != against nil; of bools. -/
def eqvA (x y : Value) : Option Bool :=
  match x, y with
  | .bool a, .bool b => some (a == b)
  | .pointer none, .pointer b => some b.isNone
  | .pointer a, .pointer none => some a.isNone
  | .pointer (some ⟨b, o, none⟩), .pointer (some ⟨c, q, none⟩) => if b = c ∧ o = q then some true else none
  | .slice none _ _, .slice b _ _ => some b.isNone
  | .slice a _ _, .slice none _ _ => some a.isNone
  | .map none, .map b => some b.isNone
  | .map a, .map none => some a.isNone
  | .nilFunc, .nilFunc => some true
  | .nilFunc, .func .. => some false
  | .func .., .nilFunc => some false
  | _, _ => none

inductive EqTy | bool | ptr | sl | map | fn
def eqTy (P : Program) (t : TypeId) : Option EqTy :=
  match P.underlying t with
  | some .bool => some .bool
  | some (.pointer e) => match sizeB P e with
    | some (_ + 1) => some .ptr
    | _ => none
  | some (.slice _) => some .sl
  | some (.map _ _) => some .map
  | some (.func _ _ _) => some .fn
  | _ => none
def eqFit (k : EqTy) (x : Value) : Bool :=
  match k, x with
  | .bool, .bool _ | .ptr, .pointer _ | .sl, .slice .. | .map, .map _ | .fn, .func .. | .fn, .nilFunc => true
  | _, _ => false

def EqTy.fits (P : Program) (t : TypeId) : EqTy → Prop
  | .bool => P.underlying t = some .bool
  | .ptr => ∃ e n, P.underlying t = some (.pointer e) ∧ sizeB P e = some (n + 1)
  | .sl => ∃ e, P.underlying t = some (.slice e)
  | .map => ∃ a b, P.underlying t = some (.map a b)
  | .fn => ∃ a b c, P.underlying t = some (.func a b c)

theorem eqTy_spec {t : TypeId} {k : EqTy} (ht : eqTy P t = some k) : k.fits P t := by
  unfold eqTy at ht
  split at ht
  · rename_i hu; cases ht; exact hu
  · rename_i e hu
    split at ht
    · rename_i n hn; cases ht; exact ⟨_, _, hu, hn⟩
    · cases ht
  · rename_i e hu; cases ht; exact ⟨_, hu⟩
  · rename_i e hu; cases ht; exact ⟨_, _, hu⟩
  · rename_i e hu; cases ht; exact ⟨_, _, _, hu⟩
  · cases ht

theorem eqvA_run {t : TypeId} {k : EqTy} {x y x' y' : Value} {b : Bool} (ht : eqTy P t = some k) (hk : eqFit k x = true) (hx : VRel β x x') (hy : VRel β y y') (hv : eqvA x y = some b) : (Op.equal t x' y').run P w = .ok b w := by
  have hf := eqTy_spec ht
  clear ht
  show (Op.equalIn (9999 + 1) t x' y').run P w = _
  unfold Op.equalIn
  cases k
  case ptr =>
    obtain ⟨e, n, hu, hn⟩ := hf
    simp only [Sem.run_bind, run_underlying hu, Result.andThen_ok]
    unfold eqvA at hv
    split at hv
    all_goals first | (cases hk; done) | (cases hv; done) | skip
    · cases hx; cases hy <;> (cases hv; rfl)
    · cases hy; cases hx <;> (cases hv; rfl)
    · split at hv
      · rename_i he
        obtain ⟨rfl, rfl⟩ := he
        cases hv
        obtain ⟨p, hp, rfl⟩ := hx.of_ptr
        obtain ⟨p2, hp2, rfl⟩ := hy.of_ptr
        rw [hp] at hp2; cases hp2
        simp only [Sem.run_bind, sizeB_run hn, Result.andThen_ok, Sem.run_ite]
        rw [if_pos (by omega)]
        simp [sameAddr]
      · cases hv
  case bool =>
    simp only [Sem.run_bind, run_underlying hf, Result.andThen_ok]
    unfold eqvA at hv
    split at hv
    all_goals first | (cases hk; done) | (cases hv; done) | skip
    cases hx; cases hy; cases hv; rfl
  case sl =>
    obtain ⟨e, hu⟩ := hf
    simp only [Sem.run_bind, run_underlying hu, Result.andThen_ok]
    unfold eqvA at hv
    split at hv
    all_goals first | (cases hk; done) | (cases hv; done) | skip
    · cases hx; cases hy <;> (cases hv; rfl)
    · cases hy; cases hx <;> (cases hv; rfl)
  case map =>
    obtain ⟨e, e2, hu⟩ := hf
    simp only [Sem.run_bind, run_underlying hu, Result.andThen_ok]
    unfold eqvA at hv
    split at hv
    all_goals first | (cases hk; done) | (cases hv; done) | skip
    · cases hx; cases hy <;> (cases hv; rfl)
    · cases hy; cases hx <;> (cases hv; rfl)
  case fn =>
    obtain ⟨e, e2, e3, hu⟩ := hf
    simp only [Sem.run_bind, run_underlying hu, Result.andThen_ok]
    unfold eqvA at hv
    split at hv
    all_goals first | (cases hk; done) | (cases hv; done) | skip
    all_goals (cases hx <;> cases hy <;> (cases hv; rfl))

def eqOp (neg : Bool) (x y : Value) : Option Value := (eqvA x y).map fun b => .bool (if neg then !b else b)

theorem sim_eqOp (hr : HRel B0 β h w) {neg : Bool} {t : TypeId} {ox oy : Operand} {k : EqTy} {x y x' y' v : Value} (ht : eqTy P t = some k) (hk : eqFit k x = true) (hx : VRel β x x') (hy : VRel β y y') (hv : eqOp neg x y = some v) :
    Sim P B0 β h w (do eqGuard (if neg then .neq else .eql) t ox oy x' y'; binOp (if neg then .neq else .eql) t x' y') v h := by
  unfold eqOp at hv
  cases he : eqvA x y with
  | none => rw [he] at hv; cases hv
  | some b =>
    rw [he] at hv; cases hv
    have hrun := eqvA_run (P := P) (w := w) ht hk hx hy he
    refine Sim.pure hr (v' := .bool (if neg then !b else b)) ?_ (.bool _)
    have hg : (eqGuard (if neg then .neq else .eql) t ox oy x' y').run P w = .ok () w := by
      unfold eqvA at he
      unfold eqGuard
      split at he
      all_goals first | (cases he; done) | skip
      all_goals
        cases hx <;> cases hy
        all_goals (cases neg <;> rfl)
    rw [Sem.run_bind, hg, Result.andThen_ok]
    have hb : binOp (if neg then .neq else .eql) t x' y' = (if neg then (do pure (.bool (!(← Op.equal t x' y')))) else (do pure (.bool (← Op.equal t x' y')))) := by
      unfold eqvA at he
      split at he
      all_goals first | (cases he; done) | skip
      all_goals
        cases hx <;> cases hy
        all_goals (cases neg <;> rfl)
    rw [hb]
    cases neg <;> simp [hrun]


/-! ### make, elements of arrays in memory -/
def makeSlA (e : TypeId) (esz by_ : Nat) (zs : List Value) (h : H) (l c : Value) : Option (Value × H) :=
  match l, c with
  | .int .i64 n, .int .i64 m => if 0 ≤ n ∧ n = m ∧ n.toNat * by_ ≤ 1099511627776 ∧ 0 < by_ ∧ zs.length = esz ∧ 0 < esz then
      some (.slice (some ⟨h.next, 0, none⟩) n.toNat esz, h.new (.cells (zeros zs n.toNat) e .var)) else none
  | _, _ => none

theorem wrap_nat {n : Nat} (h : n ≤ 1099511627776) : IntKind.i64.wrap (n : Int) = n := IntWalk.i64_in _ (by omega)

theorem sim_makeSl (hr : HRel B0 β h w) {t e : TypeId} {esz by_ : Nat} {zs : List Value} {l c l' c' v : Value} {h' : H} (hs : sliceInfo P t = some (e, esz)) (hz : zeroB P e = some zs) (hby : bytesB P e = some by_)
    (hl : VRel β l l') (hc : VRel β c c') (hv : makeSlA e esz by_ zs h l c = some (v, h')) : Sim P B0 β h w (Instr.makeSlice t l' c') v h' := by
  obtain ⟨hu, hsz⟩ := sliceInfo_spec hs
  obtain ⟨i, hi, hib⟩ := bytesB_spec hby
  obtain ⟨z, hz1, hz2, hz3⟩ := zeroB_run hz
  unfold makeSlA at hv
  split at hv
  · rename_i n m
    obtain rfl := hl.of_int; obtain rfl := hc.of_int
    split at hv
    · rename_i hcond
      obtain ⟨h1, rfl, h2, h3, h4, h5⟩ := hcond
      cases hv
      obtain ⟨k, rfl⟩ := Int.eq_ofNat_of_zero_le h1
      simp only [Int.toNat_natCast] at h2 ⊢
      have hk : k ≤ 1099511627776 := by
        have : k * 1 ≤ k * by_ := Nat.mul_le_mul_left _ h3
        omega
      have hw := wrap_nat hk
      have hlarge : (decide ((k : Int) < 0) || decide (((by_ : Nat) : Int) * (k : Int) > 2 ^ 48)) = false := by
        have h6 : ((by_ : Nat) : Int) * (k : Int) = ((k * by_ : Nat) : Int) := by rw [Int.mul_comm]; simp
        rw [h6]; simp only [Bool.or_eq_false_iff, decide_eq_false_iff_not]
        omega
      have hg := new_cells hr e (flat1_list (β := β) (zeros_flat hz3 k))
      refine ⟨.slice (some ⟨w.heap.size, 0, none⟩) k k, w.alloc (.cells (zeros zs k).toArray e), _, ?_, ?_, hg⟩
      · have hcells : (Array.range (k * esz)).map ((if k * esz = 0 then (#[] : Array Value) else zs.toArray)[· % (if k * esz = 0 then (#[] : Array Value) else zs.toArray).size]!) = (zeros zs k).toArray := by
          apply Array.ext'
          by_cases h0 : k * esz = 0
          · have hk0 : k = 0 := by rcases Nat.mul_eq_zero.1 h0 with hx | hx <;> omega
            subst hk0; simp [zeros]
          · rw [if_neg h0]
            have := zeros_array zs k
            rw [h4] at this
            have hsz2 : zs.toArray.size = esz := by simpa using h4
            rw [hsz2]; exact this
        have hl' : (¬ (k : Int) < 0) := by omega
        have hc' : ¬ ((k : Int) > (k : Int)) := by omega
        unfold Instr.makeSlice
        simp only [Sem.run_bind, run_underlying hu, Result.andThen_ok, asInt, asIntOf, Sem.run_pure, run_typeInfo w hi, hib, hw, Int.toNat_natCast]
        rw [if_neg (by rw [hlarge]; simp)]
        by_cases h0 : k * esz = 0
        · rw [if_pos h0] at hcells
          simp only [Sem.run_bind, run_askRoom, sizeB_run hsz, Result.andThen_ok, Sem.run_ite, if_pos h0, Sem.run_pure, newRow_run, hcells]
        · rw [if_neg h0] at hcells
          simp only [Sem.run_bind, run_askRoom, sizeB_run hsz, Result.andThen_ok, Sem.run_ite, if_neg h0, hz1, hz2, Sem.run_pure, newRow_run, hcells]
      · refine VRel.slice (p := ⟨w.heap.size, 0, (zeros zs k).length⟩) k (Ren.put_same _ _ _) (Nat.le_refl _) ?_
        rw [zeros_length, h4]; simp
    · cases hv
  · cases hv

def arrInfo (P : Program) (t : TypeId) : Option (Nat × Nat) :=
  match P.underlying t with
  | some (.array n e) => (sizeB P e).map fun s => (n, s)
  | _ => none

def idxArrA (len esz : Nat) (x i : Value) : Option Value :=
  match ptrOf x, i with
  | some (b, o), .int _ k => if 0 ≤ k ∧ k < len then some (.pointer (some ⟨b, o + k.toNat * esz, none⟩)) else none
  | _, _ => none

theorem sim_idxArr (hr : HRel B0 β h w) {t : TypeId} {len esz : Nat} {x x' i i' v : Value} (hs : arrInfo P t = some (len, esz)) (hx : VRel β x x') (hi : VRel β i i') (hv : idxArrA len esz x i = some v) :
    Sim P B0 β h w (Instr.indexAt t x' i') v h := by
  unfold idxArrA at hv
  split at hv
  · rename_i b o kk k hp
    obtain rfl := hi.of_int
    split at hv
    · rename_i hk
      cases hv
      obtain ⟨p, hb, rfl, rfl⟩ := ptrOf_rel hx hp
      unfold arrInfo at hs
      split at hs
      · rename_i n e hu
        cases hn : sizeB P e with
        | none => rw [hn] at hs; cases hs
        | some s =>
          rw [hn] at hs; cases hs
          refine Sim.pure hr (v' := .pointer (some ⟨p.blk, p.base + (o + k.toNat * esz), none⟩)) ?_ (.ptr hb)
          simp only [Instr.indexAt, asIntOf, Instr.sureAddr, Sem.run_bind, Sem.run_pure, run_underlying hu, Result.andThen_ok, Sem.run_ite, if_pos hk, sizeB_run hn, add_at, Nat.add_assoc]
      · cases hs
    · cases hv
  · cases hv

end
end Go.Abs
