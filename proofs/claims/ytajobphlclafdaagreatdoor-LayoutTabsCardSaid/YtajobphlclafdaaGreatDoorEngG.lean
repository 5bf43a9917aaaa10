import Derived.Test.YtajobphlclafdaaGreatDoorEngF
set_option linter.unusedVariables false
set_option linter.unusedSimpArgs false
/-! append, copy, make, len. -/
namespace Go.Abs
open Go.RowKit (Below)
section
variable {P : Program} {B0 : Nat} {β : Ren} {h : H} {w : World}

theorem Go1.kill (hr : HRel B0 β h w) {b : Nat} {o : AObj} {p : Place} (hb : h.get b = some o) (hp : β b = some p) (hm : o.mine = true) : Go1 B0 β h w β (h.set b .dead) w :=
  Go1.set hr hb hp hm (o' := .dead) trivial (by intro c e; simp) (fun _ _ => rfl) rfl rfl rfl rfl

/-- A new abstract block that lies in a block of the world which nobody else's alive lies in. -/
theorem Go1.newAt (hr : HRel B0 β h w) {w' : World} {p' : Place} {o : AObj} (h1 : B0 ≤ p'.blk) (h2 : p'.blk < w.heap.size) (hu : Upd w w' p'.blk)
    (hfree : ∀ b o p, h.get b = some o → β b = some p → p.blk = p'.blk → o = .dead) (ho : ORel (β.put h.next p') w' p' o) (hf : ∀ c e, o ≠ .cells c e .frg) :
    Go1 B0 β h w (β.put h.next p') (h.new o) w' := by
  have hβ : β.le (β.put h.next p') := fun b p e => by
    rw [Ren.put_other]; exact e
    rintro rfl; rw [(hr.fresh _ (Nat.le_refl _)).1] at e; cases e
  refine ⟨⟨?_, ?_, ?_, ?_, ?_, ?_, ?_, ?_⟩, ?_, ?_, ?_, ?_⟩
  · intro b ob p hb hp
    rw [H.get_new] at hb
    by_cases e : b = h.next
    · subst e; rw [if_pos rfl] at hb; cases hb; rw [Ren.put_same] at hp; cases hp; exact ho
    · rw [if_neg e] at hb; rw [Ren.put_other _ _ e] at hp
      by_cases e2 : p.blk = p'.blk
      · rw [hfree b ob p hb hp e2]; trivial
      · exact (hr.obj b ob p hb hp).mono hβ (hu.other _ e2)
  · intro b ob p hb hp hm
    rw [H.get_new] at hb
    by_cases e : b = h.next
    · subst e; rw [Ren.put_same] at hp; cases hp; exact h1
    · rw [if_neg e] at hb; rw [Ren.put_other _ _ e] at hp; exact hr.mine b ob p hb hp hm
  · intro b b' ob ob' p q hb hb' hp hp' hm hm' he
    rw [H.get_new] at hb hb'
    by_cases e : b = h.next <;> by_cases e' : b' = h.next
    · rw [e, e']
    · subst e; rw [if_neg e'] at hb'; rw [Ren.put_same] at hp; cases hp; rw [Ren.put_other _ _ e'] at hp'
      rw [hfree b' ob' q hb' hp' he.symm] at hm'; cases hm'
    · subst e'; rw [if_neg e] at hb; rw [Ren.put_same] at hp'; cases hp'; rw [Ren.put_other _ _ e] at hp
      rw [hfree b ob p hb hp he] at hm; cases hm
    · rw [if_neg e] at hb; rw [if_neg e'] at hb'; rw [Ren.put_other _ _ e] at hp; rw [Ren.put_other _ _ e'] at hp'
      exact hr.apart b b' ob ob' p q hb hb' hp hp' hm hm' he
  · intro b hb
    simp only [H.next_new] at hb
    rw [H.get_new, Ren.put_other _ _ (by omega), if_neg (by omega)]
    exact hr.fresh b (by omega)
  · intro g p hp
    rw [hu.size]
    by_cases e : g = h.next
    · subst e; rw [Ren.put_same] at hp; cases hp; exact h2
    · rw [Ren.put_other _ _ e] at hp; exact hr.glob g p hp
  · intro b c e' p hb hp
    rw [H.get_new] at hb
    by_cases e : b = h.next
    · rw [if_pos e] at hb; cases hb; exact absurd rfl (hf c e')
    · rw [if_neg e] at hb; rw [Ren.put_other _ _ e] at hp; exact hr.frg b c e' p hb hp
  · rw [hu.size]; exact hr.size
  · intro g hg; obtain ⟨e, he⟩ := hr.gl g hg; exact ⟨e, hβ _ _ he⟩
  · intro b hb; exact Ren.put_other _ _ (by omega)
  · simp
  · intro b hb _; rw [H.get_new, if_neg (by omega)]
  · exact ⟨hu.os, hu.tape, hu.output, by rw [hu.size]; exact Nat.le_refl _, fun k hk => hu.other k (by omega)⟩

/-- The cells of what is appended, copied from: a slice's, a string's. n: how many elements. -/
def srcCells (h : H) (esz n : Nat) (x : Value) : Option (List Value) :=
  match x with
  | .slice none _ _ => if n = 0 then some [] else none
  | .slice (some ⟨b, o, none⟩) m e => if n ≤ m ∧ e = esz then rd h b o (n * esz) else none
  | .string s => if n ≤ s.size ∧ esz = 1 then some ((s.data.toList.take n).map fun b => .int .u8 b.toNat) else none
  | _ => none

def srcLen (x : Value) : Option Nat :=
  match x with
  | .slice none _ _ => some 0
  | .slice (some _) m _ => some m
  | .string s => some s.size
  | _ => none

theorem srcLen_rel {x x' : Value} {n : Nat} (hx : VRel β x x') (hn : srcLen x = some n) : (Builtin.lenOf x').run P w = .ok n w := by
  unfold srcLen at hn
  split at hn
  · cases hn; cases hx; rfl
  · cases hn; cases hx <;> rfl
  · cases hn; obtain rfl := hx.of_string; rfl
  · cases hn

theorem LRel.refl_bytes (l : List UInt8) : LRel β (l.map fun b => Value.int .u8 b.toNat) (l.map fun b => Value.int .u8 b.toNat) := by
  induction l with
  | nil => exact .nil
  | cons a l ih => exact .cons (.int _ _) ih

theorem srcCells_rel (hr : HRel B0 β h w) {esz n : Nat} {x x' : Value} {xs : List Value} (hx : VRel β x x') (hv : srcCells h esz n x = some xs) :
    ∃ xs', (Builtin.firstCells esz n x').run P w = .ok xs'.toArray w ∧ (Builtin.firstCells esz n x').run P w.drew = .ok xs'.toArray w.drew ∧ LRel β xs xs' ∧ xs.length = n * esz := by
  unfold srcCells at hv
  split at hv
  · split at hv
    · rename_i h0; cases hv; cases hx; exact ⟨[], rfl, rfl, .nil, by simp [h0]⟩
    · cases hv
  · rename_i b o m e
    split at hv
    · rename_i hc
      obtain ⟨p, hb, ⟨cc, rfl, hl2, he⟩ | ⟨a, hm, rfl, ho⟩⟩ := slOf_rel (b := b) (o := o) (n := m) (e := e) hx rfl
      · obtain ⟨xs', r1, r2, r3, r4⟩ := rd_rel hr hb hv
        refine ⟨xs', ?_, ?_, r1, r2⟩
        · have := run_loadCells_list (P := P) w ⟨p.blk, p.base + o, none⟩ xs' (fun j v hj => by rw [add_at]; exact r4 j v hj)
          rw [← r1.length, r2] at this
          simp only [Builtin.firstCells, this]
        · have := run_loadCells_list (P := P) w.drew ⟨p.blk, p.base + o, none⟩ xs' (fun j v hj => by rw [add_at]; exact r4 j v hj)
          rw [← r1.length, r2] at this
          simp only [Builtin.firstCells, this]
      · have hn : n = 0 := by omega
        subst hn
        obtain ⟨xs', r1, r2, r3, r4⟩ := rd_rel hr hb hv
        have : xs = [] := by cases xs with
          | nil => rfl
          | cons a l => simp at r2
        subst this
        exact ⟨[], by simp [Builtin.firstCells, loadCells, loadCellsFrom], by simp [Builtin.firstCells, loadCells, loadCellsFrom], .nil, by simp⟩
    · cases hv
  · split at hv
    · rename_i s hc
      cases hv
      obtain rfl := hx.of_string
      obtain ⟨h1, rfl⟩ := hc
      have hb : s.extract 0 n = bext s 0 n := (bext_eq s 0 n).symm
      refine ⟨_, ?_, ?_, LRel.refl_bytes _, by simp; omega⟩
      · simp only [Builtin.firstCells, Sem.run_pure]
        rw [hb]
        simp [bext]
      · simp only [Builtin.firstCells, Sem.run_pure]
        rw [hb]
        simp [bext]
    · cases hv
  · cases hv

theorem growBy_le (newLen : Nat) : ∀ (r c : Nat), c ≤ newLen → Builtin.growBy newLen r c ≤ 2 * newLen + 1024 := by
  intro r
  induction r with
  | zero => intro c hc; simp only [Builtin.growBy]; omega
  | succ r ih =>
    intro c hc
    simp only [Builtin.growBy]
    split
    · omega
    · by_cases h1 : c + (c + 768) / 4 ≤ newLen
      · exact ih _ h1
      · cases r with
        | zero => simp only [Builtin.growBy]; omega
        | succ r => simp only [Builtin.growBy]; rw [if_pos (by omega)]; omega

theorem nextslicecap_le (need cap : Nat) (h : cap < need) : Builtin.nextslicecap need cap ≤ 2 * need + 1024 := by
  unfold Builtin.nextslicecap
  split
  · omega
  · split
    · omega
    · exact growBy_le _ _ _ (by omega)

def bytesB (P : Program) (t : TypeId) : Option Nat := (P.info? t).map (·.bytes)
theorem bytesB_spec {t : TypeId} {n : Nat} (hs : bytesB P t = some n) : ∃ i, P.info? t = some i ∧ i.bytes = n := by
  unfold bytesB at hs
  cases hi : P.info? t with
  | none => simp [hi] at hs
  | some i => simp [hi] at hs; exact ⟨i, rfl, hs⟩

def Mode.grow : Mode → Mode
  | .var => .own
  | m => m

/-- append(s, x...): e: the element's type, esz its cells, by its bytes. The old block is gone. -/
def appendA (e : TypeId) (esz by_ : Nat) (h : H) (s x : Value) : Option (Value × H) :=
  match srcLen x with
  | none => none
  | some n => if n = 0 then (match s with | .slice .. => some (s, h) | _ => none) else
    match srcCells h esz n x with
    | none => none
    | some xs =>
      match s with
      | .slice none _ _ => if n * by_ ≤ 1099511627776 ∧ by_ ≤ 65536 ∧ 0 < by_ then some (.slice (some ⟨h.next, 0, none⟩) n esz, h.new (.cells xs e .own)) else none
      | .slice (some ⟨b, o, none⟩) m esz' =>
        match h.get b with
        | some (.cells c e' md) =>
          if esz' = esz ∧ e' = e ∧ o + m * esz ≤ c.length ∧ (m + n) * by_ ≤ 1099511627776 ∧ by_ ≤ 65536 ∧ 0 < by_ ∧ xs.all one = true ∧ (md = .own ∨ md = .var ∨ md = .frz ∧ o + m * esz = c.length) then
            some (.slice (some ⟨h.next, 0, none⟩) (m + n) esz, (h.set b .dead).new (.cells ((c.drop o).take (m * esz) ++ xs) e md.grow))
          else none
        | _ => none
      | _ => none

/-- The second argument's type is no integer (append of a make). -/
def plainArg (P : Program) (ts : Array TypeId) : Bool :=
  match ts[1]? with
  | some t => match P.underlying t with
    | some (.int _) => false
    | some _ => true
    | none => false
  | none => false

theorem plainArg_spec {ts : Array TypeId} (ht : plainArg P ts = true) : ∃ t d, ts[1]? = some t ∧ P.underlying t = some d ∧ ∀ k, d ≠ .int k := by
  unfold plainArg at ht
  split at ht
  · rename_i t h1
    split at ht
    · cases ht
    · rename_i d hn hu
      exact ⟨t, d, h1, hu, fun k e => hn k e⟩
    · cases ht
  · cases ht

/-- append, of what is no make. -/
def appCore (e esz : Nat) (base : Option Addr) (m cap : Nat) (x : Value) : Sem Value := do
  let n ← Builtin.lenOf x
  if m + n ≤ cap then
    let new ← Builtin.firstCells esz n x
    if let some a := base then storeCells (a.add (m * esz)) new.toList
    pure (.slice base (m + n) cap)
  else
    if ((m + n : Nat) : Int) > IntKind.i64.max ∧ (← typeInfo e).bytes = 0 then runtimePanic (.error "growslice: len out of range")
    if Builtin.nextslicecap (m + n) cap * (← typeInfo e).bytes > 2 ^ 48 then (do
      if !(← Builtin.mayShare esz m n base x) then mark .noRoom
      unsupported (.resourceLimit "append: a slice or a string whose bytes no memory bears") : Sem Unit)
    let newCap ← choose (.appendCap (m + n) cap e)
    askRoom (newCap * (← typeInfo e).bytes)
    let old ← Builtin.firstCells esz m (.slice base m cap)
    let new ← Builtin.firstCells esz n x
    let rest := Builtin.zeroCells (← zeroValue e).cells (newCap - (m + n))
    pure (.slice (some (← newRow e (old ++ new ++ rest))) (m + n) newCap)

theorem append_core {sType : TypeId} {ts : Array TypeId} {ty : TypeId} {x' : Value} {e : TypeId} {esz : Nat} {base : Option Addr} {m cap : Nat}
    (ht : ts[0]? = some sType) (hs : sliceInfo P sType = some (e, esz)) (hp : plainArg P ts = true) :
    (Builtin.append_ ts ty #[.slice base m cap, x']).run P w = (appCore e esz base m cap x').run P w := by
  obtain ⟨hu, hsz⟩ := sliceInfo_spec hs
  obtain ⟨xt, d, hx1, hx2, hx3⟩ := plainArg_spec hp
  have ha0 : (#[.slice base m cap, x'] : Array Value)[0]? = some (.slice base m cap) := rfl
  have ha1 : (#[.slice base m cap, x'] : Array Value)[1]? = some x' := rfl
  unfold Builtin.append_ appCore
  simp only [ht, ha0, ha1, hx1]
  rw [Sem.run_bind, run_underlying hu]
  simp only [Result.andThen_ok]
  rw [Sem.run_bind, sizeB_run hsz]
  simp only [Result.andThen_ok]
  rw [Sem.run_bind, run_underlying hx2]
  simp only [Result.andThen_ok]
  cases d <;> first
    | exact absurd rfl (hx3 _)
    | (simp only [pure_bind, Bool.false_eq_true, if_false, Bool.not_false, if_true, false_or]; done)
    | (simp only [pure_bind, Bool.false_eq_true, if_false, Bool.not_false, if_true, false_or]; rfl)

theorem run_append {sType : TypeId} {ts : Array TypeId} {ty : TypeId} {x' : Value} {e : TypeId} {esz by_ n : Nat} {zs : List Value} {base : Option Addr} {m cap : Nat}
    (ht : ts[0]? = some sType) (hs : sliceInfo P sType = some (e, esz)) (hz : zeroB P e = some zs) (hby : bytesB P e = some by_) (hp : plainArg P ts = true)
    (hn : (Builtin.lenOf x').run P w = .ok n w) {new : List Value} (hnew : (Builtin.firstCells esz n x').run P w = .ok new.toArray w) :
    (m + n ≤ cap → (Builtin.append_ ts ty #[.slice base m cap, x']).run P w =
      (match base with | some a => (storeCells (a.add (m * esz)) new).run P w | none => .ok () w).andThen fun _ w' => .ok (.slice base (m + n) cap) w') ∧
    (cap < m + n → (m + n) * by_ ≤ 1099511627776 → by_ ≤ 65536 → 0 < by_ → ∀ old : List Value, (Builtin.firstCells esz m (.slice base m cap)).run P w.drew = .ok old.toArray w.drew → (Builtin.firstCells esz n x').run P w.drew = .ok new.toArray w.drew →
      ∃ cc, m + n ≤ cc ∧ (Builtin.append_ ts ty #[.slice base m cap, x']).run P w = .ok (.slice (some ⟨w.heap.size, 0, none⟩) (m + n) cc) (w.drew.alloc (.cells (old ++ new ++ (Builtin.zeroCells zs.toArray (cc - (m + n))).toList).toArray e))) := by
  rw [append_core ht hs hp]
  obtain ⟨i, hi, hib⟩ := bytesB_spec hby
  obtain ⟨z, hz1, hz2, _⟩ := zeroB_run hz
  constructor
  · intro hle
    unfold appCore
    simp only [Sem.run_bind, hn, Result.andThen_ok, Sem.run_ite, if_pos hle, hnew]
    cases base with
    | none => simp
    | some a => simp
  · intro hlt hb1 hb2 hb0 old hold hnew2
    have hnc := nextslicecap_le (m + n) cap hlt
    have hbig : ¬ (Builtin.nextslicecap (m + n) cap * by_ > 2 ^ 48) := by
      have h1 : Builtin.nextslicecap (m + n) cap * by_ ≤ (2 * (m + n) + 1024) * by_ := Nat.mul_le_mul_right _ hnc
      have h2 : (2 * (m + n) + 1024) * by_ = 2 * ((m + n) * by_) + 1024 * by_ := by rw [Nat.add_mul, Nat.mul_assoc]
      omega
    have hno : ¬ (((m + n : Nat) : Int) > IntKind.i64.max ∧ by_ = 0) := by
      rintro ⟨h1, h2⟩
      omega
    refine ⟨Question.cut (.appendCap (m + n) cap e) (w.tape w.drawn (.appendCap (m + n) cap e)), by simp [Question.cut], ?_⟩
    unfold appCore
    rw [Sem.run_bind, hn, Result.andThen_ok, Sem.run_ite, if_neg (Nat.not_le.2 hlt)]
    simp only [Sem.run_bind, run_typeInfo w hi, hib, Result.andThen_ok, Sem.run_ite, if_neg hno, if_neg hbig]
    have hch : (choose (.appendCap (m + n) cap e)).run P w = .ok (Question.cut (.appendCap (m + n) cap e) (w.tape w.drawn (.appendCap (m + n) cap e))) w.drew := by
      simp [Question.forced]
    rw [hch]
    have hz : ∀ a : Array Value, old.toArray ++ new.toArray ++ a = (old ++ new ++ a.toList).toArray := fun a => by apply Array.ext'; simp
    simp only [Result.andThen_ok, run_typeInfo w.drew hi, run_askRoom, hold, hnew2, hz1, hz2, newRow_run, Sem.run_pure, hz]
    rfl


theorem zeroCells_len (zs : Array Value) (n : Nat) : (Builtin.zeroCells zs n).toList.length = n * zs.size := by simp [Builtin.zeroCells]

theorem mode_ne_frg {md : Mode} (h : md = .own ∨ md = .frz) : md ≠ .frg := by rcases h with rfl | rfl <;> simp

theorem firstCells_zero {x x' : Value} {n : Nat} (hxr : VRel β x x') (hsl : srcLen x = some n) (esz : Nat) : (Builtin.firstCells esz 0 x').run P w = .ok ([] : List Value).toArray w := by
  unfold srcLen at hsl
  split at hsl
  · cases hxr; rfl
  · cases hxr <;> simp [Builtin.firstCells, loadCells, loadCellsFrom]
  · obtain rfl := hxr.of_string
    rename_i s _
    simp only [Builtin.firstCells, Sem.run_pure]
    rw [← bext_eq]
    simp [bext]
  · cases hsl

/-- The grown copy. -/
theorem grown (hr : HRel B0 β h w) {old old' xs xs' : List Value} {e : TypeId} {esz k cc : Nat} {zs : List Value} {md : Mode} (ho : LRel β old old') (hx : LRel β xs xs') (hzl : zs.length = esz)
    (hk : (old ++ xs).length = k * esz) (hcc : k ≤ cc) (hmd : md ≠ .frg) (hmv : md ≠ .var) :
    ∃ β', VRel β' (.slice (some ⟨h.next, 0, none⟩) k esz) (.slice (some ⟨w.heap.size, 0, none⟩) k cc) ∧
      Go1 B0 β h w β' (h.new (.cells (old ++ xs) e md)) (w.drew.alloc (.cells (old' ++ xs' ++ (Builtin.zeroCells zs.toArray (cc - k)).toList).toArray e)) := by
  have hl := ho.append hx
  have hrest : (Builtin.zeroCells zs.toArray (cc - k)).toList.length = (cc - k) * esz := by rw [zeroCells_len]; simp [hzl]
  have hlen : (old' ++ xs').length = k * esz := by rw [← hl.length]; exact hk
  have hext : (old' ++ xs' ++ (Builtin.zeroCells zs.toArray (cc - k)).toList).length = cc * esz := by
    rw [List.length_append, hrest, hlen, ← Nat.add_mul]; congr 1; omega
  have hle : k * esz ≤ cc * esz := Nat.mul_le_mul_right _ hcc
  refine ⟨β.put h.next ⟨w.heap.size, 0, cc * esz⟩, VRel.slice (p := ⟨w.heap.size, 0, cc * esz⟩) cc (Ren.put_same _ _ _) hcc (by simp), ?_⟩
  refine (Go1.drew hr).trans (Go1.new hr.drew _ _ _ ?_ (by intro c t hh; cases hh; exact hmd rfl))
  have hβ : β.le (β.put h.next ⟨w.heap.size, 0, cc * esz⟩) := fun b p e => by
    rw [Ren.put_other]; exact e
    rintro rfl; rw [(hr.fresh _ (Nat.le_refl _)).1] at e; cases e
  refine ⟨(old' ++ xs' ++ (Builtin.zeroCells zs.toArray (cc - k)).toList).toArray, e, (0, 0), ?_, ?_, ?_, by rw [hk]; exact hle, fun _ => rfl, fun _ => rfl, fun _ => Nat.zero_le _, fun hh => absurd hh hmv⟩
  · show (w.drew.heap.push _)[w.drew.heap.size]? = _
    rw [Array.getElem?_push, if_pos rfl]
  · show 0 + cc * esz ≤ (old' ++ xs' ++ (Builtin.zeroCells zs.toArray (cc - k)).toList).length
    rw [hext]; omega
  · have : (List.take (old ++ xs).length (List.drop 0 (old' ++ xs' ++ (Builtin.zeroCells zs.toArray (cc - k)).toList).toArray.toList)) = old' ++ xs' := by
      rw [hl.length]; simp only [List.drop_zero]; rw [List.take_left']; rfl
    show LRel _ _ (List.take (old ++ xs).length (List.drop 0 _))
    rw [this]
    exact hl.mono hβ

/-- In place. -/
theorem inplace (hr : HRel B0 β h w) {b o m n esz cc : Nat} {c xs xs' : List Value} {e : TypeId} {md : Mode} {p : Place} (hg : h.get b = some (.cells c e md)) (hb : β b = some p)
    (hx : LRel β xs xs') (hxl : xs.length = n * esz) (hone : xs.all one = true) (hle : m + n ≤ cc) (he : o + cc * esz = p.ext) (hoc : o + m * esz ≤ c.length) (hmd : md = .own ∨ md = .var ∨ md = .frz ∧ o + m * esz = c.length) :
    ∃ w' β', (storeCells (Addr.add ⟨p.blk, p.base + o, none⟩ (m * esz)) xs').run P w = .ok () w' ∧ VRel β' (.slice (some ⟨h.next, 0, none⟩) (m + n) esz) (.slice (some ⟨p.blk, p.base + o, none⟩) (m + n) cc) ∧
      Go1 B0 β h w β' ((h.set b .dead).new (.cells ((c.drop o).take (m * esz) ++ xs) e md.grow)) w' := by
  have hmine : (AObj.cells c e md).mine = true := by rcases hmd with rfl | rfl | ⟨rfl, _⟩ <;> rfl
  have hnf : md.grow ≠ .frg := by rcases hmd with rfl | rfl | ⟨rfl, _⟩ <;> simp [Mode.grow]
  have hnv : md.grow ≠ .var := by rcases hmd with rfl | rfl | ⟨rfl, _⟩ <;> simp [Mode.grow]
  obtain ⟨arr, t, fz, h1, h2, h3, h4, h5, h6, h7, _⟩ := hr.obj b _ p hg hb
  have hB := hr.mine b _ p hg hb hmine
  have hxl' : xs'.length = n * esz := by rw [← hx.length]; exact hxl
  have hmul : m * esz + n * esz ≤ cc * esz := by rw [← Nat.add_mul]; exact Nat.mul_le_mul_right _ hle
  have hone' : ∀ v ∈ xs', v.oneCell' = true := by
    intro v hv
    obtain ⟨j, hj⟩ := List.getElem?_of_mem hv
    have hjl : j < xs.length := by rw [hx.length]; exact (List.getElem?_eq_some_iff.1 hj).1
    obtain ⟨v', e1, e2⟩ := hx.get (List.getElem?_eq_getElem hjl)
    rw [hj] at e1; cases e1
    exact one_rel e2 (List.all_eq_true.1 hone _ (List.getElem_mem hjl))
  obtain ⟨w', arr', e1, e2, e3, e4⟩ := run_storeCells (P := P) (o := p.base + o + m * esz) xs' 0 arr w h1 (by omega) (fun j hj => by
    rcases hmd with rfl | rfl | ⟨rfl, hc⟩
    · rw [h6 (.inl rfl)]; simp
    · rw [h6 (.inr rfl)]; simp
    · have := h7 rfl; omega) hone'
  have hsz : arr'.size = arr.size := by
    have := congrArg List.length e4
    rw [over_length _ _ _ (by simp; omega)] at this
    simpa using this
  have hbn : b < h.next := by
    rcases Nat.lt_or_ge b h.next with hx | hx
    · exact hx
    · rw [(hr.fresh b hx).1] at hb; cases hb
  have hk := Go1.kill hr hg hb hmine
  have hβ : β.le (β.put h.next ⟨p.blk, p.base + o, p.ext - o⟩) := fun b p e => by
    rw [Ren.put_other]; exact e
    rintro rfl; rw [(hr.fresh _ (Nat.le_refl _)).1] at e; cases e
  refine ⟨w', β.put h.next ⟨p.blk, p.base + o, p.ext - o⟩, by rw [add_at]; exact e1, ?_, ?_⟩
  · refine VRel.slice (p := ⟨p.blk, p.base + o, p.ext - o⟩) cc (Ren.put_same _ _ _) hle ?_
    simp only; omega
  refine hk.trans (Go1.newAt hk.rel (p' := ⟨p.blk, p.base + o, p.ext - o⟩) hB (hr.glob b p hb) e2 ?_ ?_ (by intro c t hh; injection hh with _ _ h3; exact hnf h3))
  · intro b2 o2 p2 hb2 hp2 hblk
    rw [H.get_set] at hb2
    by_cases hbb : b2 = b
    · rw [if_pos hbb] at hb2; cases hb2; rfl
    · rw [if_neg hbb] at hb2
      cases o2 with
      | dead => rfl
      | cells c2 e2 m2 =>
        cases m2 with
        | frg => exact absurd (hr.frg b2 c2 e2 p2 hb2 hp2) (by simp only at hblk; omega)
        | var => exact absurd (hr.apart b2 b _ _ p2 p hb2 hg hp2 hb rfl hmine hblk) hbb
        | own => exact absurd (hr.apart b2 b _ _ p2 p hb2 hg hp2 hb rfl hmine hblk) hbb
        | frz => exact absurd (hr.apart b2 b _ _ p2 p hb2 hg hp2 hb rfl hmine hblk) hbb
      | map es => exact absurd (hr.apart b2 b _ _ p2 p hb2 hg hp2 hb rfl hmine hblk) hbb
      | siter s q => exact absurd (hr.apart b2 b _ _ p2 p hb2 hg hp2 hb rfl hmine hblk) hbb
  · have hclen : ((c.drop o).take (m * esz)).length = m * esz := by simp; omega
    have htot : ((c.drop o).take (m * esz) ++ xs).length = m * esz + n * esz := by rw [List.length_append, hclen, hxl]
    refine ⟨arr', t, fz, e3, by simp only; omega, ?_, by rw [htot]; simp only; omega, fun _ => h5 (by rcases hmd with rfl | rfl | ⟨rfl, _⟩ <;> simp), fun hm => ?_, fun hm => ?_, fun hh => absurd hh hnv⟩
    · rw [htot, e4]
      have hcut : List.take (m * esz + n * esz) (List.drop (p.base + o) (over arr.toList (p.base + o + m * esz + 0) xs')) =
          List.take (m * esz) (List.drop o (List.take c.length (List.drop p.base arr.toList))) ++ xs' := by
        rw [over_rel_out (by simp; omega) (by omega) (by omega)]
        rw [show p.base + o + m * esz + 0 - (p.base + o) = m * esz by omega]
        unfold over
        rw [List.take_take, Nat.min_eq_left (by omega)]
        have hd : List.drop (m * esz + xs'.length) (List.take (m * esz + n * esz) (List.drop (p.base + o) arr.toList)) = [] := List.drop_eq_nil_of_le (by rw [List.length_take]; omega)
        rw [hd, List.append_nil]
        congr 1
        apply List.ext_getElem?
        intro j
        simp only [List.getElem?_take, List.getElem?_drop]
        by_cases hj : j < m * esz
        · rw [if_pos hj, if_pos hj, if_pos (by omega), Nat.add_assoc]
        · rw [if_neg hj, if_neg hj]
      rw [hcut]
      exact (((h3.drop o).take (m * esz)).append hx).mono hβ
    · rcases hmd with rfl | rfl | ⟨rfl, _⟩
      · exact h6 (.inl rfl)
      · exact h6 (.inr rfl)
      · rcases hm with hm | hm <;> cases hm
    · rcases hmd with rfl | rfl | ⟨rfl, hc⟩
      · cases hm
      · cases hm
      · have := h7 rfl
        rw [htot]; simp only; omega

theorem sim_append (hr : HRel B0 β h w) {sType : TypeId} {ts : Array TypeId} {ty : TypeId} {s s' x x' v : Value} {e : TypeId} {esz by_ : Nat} {zs : List Value} {h' : H}
    (ht : ts[0]? = some sType) (hs : sliceInfo P sType = some (e, esz)) (hz : zeroB P e = some zs) (hzl : zs.length = esz) (hby : bytesB P e = some by_) (hp : plainArg P ts = true)
    (hsr : VRel β s s') (hxr : VRel β x x') (hv : appendA e esz by_ h s x = some (v, h')) :
    Sim P B0 β h w (Builtin.append_ ts ty #[s', x']) v h' := by
  unfold appendA at hv
  cases hsl : srcLen x with
  | none => rw [hsl] at hv; cases hv
  | some n =>
    rw [hsl] at hv
    have hlen := srcLen_rel (P := P) (w := w) hxr hsl
    simp only [] at hv
    by_cases hn0 : n = 0
    · rw [if_pos hn0] at hv
      subst hn0
      have hnew := firstCells_zero (P := P) (w := w) hxr hsl esz
      split at hv
      · cases hv
        have hsh : ∃ base m cap, s' = .slice base m cap ∧ m ≤ cap := by cases hsr <;> exact ⟨_, _, _, rfl, by omega⟩
        obtain ⟨base, m, cap, rfl, hmc⟩ := hsh
        refine Sim.pure hr ?_ hsr
        rw [(run_append ht hs hz hby hp hlen hnew).1 (by omega)]
        cases base <;> simp [storeCells]
      · cases hv
    · rw [if_neg hn0] at hv
      cases hsc : srcCells h esz n x with
      | none => rw [hsc] at hv; cases hv
      | some xs =>
        rw [hsc] at hv
        obtain ⟨xs', hx1, hx1', hx2, hx3⟩ := srcCells_rel (P := P) hr hxr hsc
        simp only [] at hv
        split at hv
        · split at hv
          · rename_i hc
            cases hv
            cases hsr
            have hold : (Builtin.firstCells esz 0 (.slice none 0 0)).run P w.drew = .ok ([] : List Value).toArray w.drew := rfl
            obtain ⟨cc, hcc, hrun⟩ := (run_append ht hs hz hby hp hlen hx1).2 (by omega) (by simpa using hc.1) hc.2.1 hc.2.2 [] hold hx1'
            rw [Nat.zero_add] at hrun hcc
            obtain ⟨β', g1, g2⟩ := grown (k := n) (md := .own) hr (.nil) hx2 hzl (by simpa using hx3) hcc (by simp) (by simp)
            exact ⟨_, _, β', hrun, g1, g2⟩
          · cases hv
        · rename_i b o m esz'
          split at hv
          · rename_i c e' md hg
            split at hv
            · rename_i hc
              cases hv
              obtain ⟨rfl, rfl, hc3, hc4, hc5, hc6, hc7, hc8⟩ := hc
              have hnf : md.grow ≠ .frg := by rcases hc8 with rfl | rfl | ⟨rfl, _⟩ <;> simp [Mode.grow]
              have hnv : md.grow ≠ .var := by rcases hc8 with rfl | rfl | ⟨rfl, _⟩ <;> simp [Mode.grow]
              have hmine : (AObj.cells c e' md).mine = true := by rcases hc8 with rfl | rfl | ⟨rfl, _⟩ <;> rfl
              obtain ⟨p, hb, ⟨cc, rfl, hl2, he⟩ | ⟨a, hm, rfl, ho⟩⟩ := slOf_rel (b := b) (o := o) (n := m) (e := esz') hsr rfl
              · by_cases hfit : m + n ≤ cc
                · obtain ⟨w', β', r1, r2, r3⟩ := inplace (P := P) (n := n) hr hg hb hx2 hx3 hc7 hfit he hc3 hc8
                  refine ⟨_, w', β', ?_, r2, r3⟩
                  rw [(run_append ht hs hz hby hp hlen hx1).1 hfit]
                  simp only [r1, Result.andThen_ok]
                · have hk := Go1.kill hr hg hb hmine
                  have hsold : srcCells h esz' m (.slice (some ⟨b, o, none⟩) m esz') = some ((c.drop o).take (m * esz')) := by
                    simp [srcCells, rd, hg, hc3]
                  obtain ⟨old', ho1, _, ho2, ho3⟩ := srcCells_rel (P := P) hr.drew hsr hsold
                  obtain ⟨cc', hcc, hrun⟩ := (run_append ht hs hz hby hp hlen hx1).2 (by omega) hc4 hc5 hc6 old' ho1 hx1'
                  obtain ⟨β', g1, g2⟩ := grown (k := m + n) (md := md.grow) (e := e') hk.rel ho2 hx2 hzl (by rw [List.length_append, ho3, hx3, ← Nat.add_mul]) hcc hnf hnv
                  exact ⟨_, _, β', hrun, g1, hk.trans g2⟩
              · subst hm
                have hk := Go1.kill hr hg hb hmine
                have hold : (Builtin.firstCells esz' 0 (.slice (some a) 0 0)).run P w.drew = .ok ([] : List Value).toArray w.drew := by simp [Builtin.firstCells, loadCells, loadCellsFrom]
                obtain ⟨cc', hcc, hrun⟩ := (run_append ht hs hz hby hp hlen hx1).2 (by omega) hc4 hc5 hc6 [] hold hx1'
                have e0 : (c.drop o).take (0 * esz') = [] := by simp
                obtain ⟨β', g1, g2⟩ := grown (k := 0 + n) (md := md.grow) (e := e') hk.rel (.nil) hx2 hzl (by simpa using hx3) hcc hnf hnv
                rw [e0]
                exact ⟨_, _, β', hrun, g1, hk.trans g2⟩
            · cases hv
          · cases hv
        · cases hv

end
end Go.Abs
