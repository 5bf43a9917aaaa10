import Derived.Test.YtajobphlclafdaaGreatDoorEngC
set_option linter.unusedVariables false
set_option linter.unusedSimpArgs false
/-! Operations one by one: what the abstract machine does, the model does. -/
namespace Go.Abs
open Go.RowKit (Below)

def Sim (P : Program) (B0 : Nat) (β : Ren) (h : H) (w : World) (s : Sem Value) (v : Value) (h' : H) : Prop :=
  ∃ v' w' β', s.run P w = .ok v' w' ∧ VRel β' v v' ∧ Go1 B0 β h w β' h' w'

section
variable {P : Program} {B0 : Nat} {β : Ren} {h : H} {w : World}

theorem Sim.pure (hr : HRel B0 β h w) {s : Sem Value} {v v' : Value} (hs : s.run P w = .ok v' w) (hv : VRel β v v') : Sim P B0 β h w s v h :=
  ⟨v', w, β, hs, hv, Go1.refl hr⟩

/-- The cells of a value that is told whole. -/
def vcells : Value → Option (List Value)
  | .agg cs => if cs.toList.all one then some cs.toList else none
  | .tuple _ | .float _ _ => none
  | v => some [v]

theorem vcells_rel {v v' : Value} {xs : List Value} (hv : VRel β v v') (hx : vcells v = some xs) :
    ∃ xs', v'.cells = xs'.toArray ∧ LRel β xs xs' ∧ xs.all one = true := by
  cases hv with
  | undef => cases hx
  | agg c c' hc rc =>
    simp only [vcells] at hx
    split at hx
    · cases hx
      exact ⟨c'.toList, by simp [Value.cells], LRel.of_arrays hc rc, by assumption⟩
    · cases hx
  | tuple => cases hx
  | skip => cases hx
  | _ => (cases hx; refine ⟨_, rfl, .cons ?_ .nil, rfl⟩; constructor <;> assumption)

/-! ### loads and stores -/

def ptrOf : Value → Option (Nat × Nat)
  | .pointer (some ⟨b, o, none⟩) => some (b, o)
  | _ => none
theorem ptrOf_rel {x x' : Value} {b o : Nat} (hv : VRel β x x') (hx : ptrOf x = some (b, o)) : ∃ p, β b = some p ∧ x = .pointer (some ⟨b, o, none⟩) ∧ x' = .pointer (some ⟨p.blk, p.base + o, none⟩) := by
  unfold ptrOf at hx
  split at hx
  · cases hx; obtain ⟨p, h1, h2⟩ := hv.of_ptr; exact ⟨p, h1, rfl, h2⟩
  · cases hx

def load1 (h : H) (x : Value) : Option Value :=
  match ptrOf x with
  | some (b, o) => match h.get b with
    | some (.cells c _ _) => c[o]?
    | _ => none
  | none => none

def loadN (h : H) (n : Nat) (x : Value) : Option Value :=
  match ptrOf x with
  | some (b, o) => (rd h b o n).map fun xs => .agg xs.toArray
  | none => none

def aggB (P : Program) (t : TypeId) : Option Bool :=
  match P.underlying t with
  | some (.struct _) | some (.array _ _) => some true
  | some _ => some false
  | none => none
def sizeB (P : Program) (t : TypeId) : Option Nat := (P.info? t).map (·.size)

theorem sizeB_run {t : TypeId} {n : Nat} (hs : sizeB P t = some n) (w : World) : (sizeOf t).run P w = .ok n w := by
  unfold sizeB at hs
  cases hi : P.info? t with
  | none => simp [hi] at hs
  | some i => simp [hi] at hs; have := run_sizeOf (P := P) (w := w) hi; rw [this]; simp [Program.cellsOf, hi, hs]

theorem aggB_run {t : TypeId} {b : Bool} (ha : aggB P t = some b) (w : World) : (isAgg t).run P w = .ok b w := by
  unfold aggB at ha
  cases hu : P.underlying t with
  | none => simp [hu] at ha
  | some d =>
    simp only [isAgg, Sem.run_bind, run_underlying hu, Result.andThen_ok]
    rw [hu] at ha
    cases d <;> cases ha <;> rfl

theorem sim_load1 (hr : HRel B0 β h w) {t : TypeId} {x x' v : Value} (ht : aggB P t = some false) (hx : VRel β x x') (hv : load1 h x = some v) :
    Sim P B0 β h w (Instr.loadAt t x') v h := by
  unfold load1 at hv
  split at hv
  · rename_i b o hp
    obtain ⟨p, hb, rfl, rfl⟩ := ptrOf_rel hx hp
    split at hv
    · rename_i c e m hg
      have h1 : rd h b o 1 = some [v] := by
        unfold rd
        rw [hg]
        have : o < c.length := (List.getElem?_eq_some_iff.1 hv).1
        simp only [show o + 1 ≤ c.length from this, if_true]
        rw [List.drop_eq_getElem_cons this]
        simp [(List.getElem?_eq_some_iff.1 hv).2]
      obtain ⟨xs', r1, r2, r3, r4⟩ := rd_rel hr hb h1
      obtain ⟨v', rfl, r5⟩ := r1.some
      have hc := r4 0 v' rfl
      refine Sim.pure hr (v' := v') ?_ r5
      simp only [Instr.loadAt, Instr.sureAddr, loadVar, Sem.run_bind, Sem.run_pure, Result.andThen_ok, aggB_run ht, Bool.false_eq_true, if_false, run_load]
      rw [show p.base + o + 0 = p.base + o from rfl] at hc
      rw [hc]
    · cases hv
  · cases hv

theorem sim_loadN (hr : HRel B0 β h w) {t : TypeId} {n : Nat} {x x' v : Value} (ht : aggB P t = some true) (hn : sizeB P t = some n) (hx : VRel β x x') (hv : loadN h n x = some v) :
    Sim P B0 β h w (Instr.loadAt t x') v h := by
  unfold loadN at hv
  split at hv
  · rename_i b o hp
    obtain ⟨p, hb, rfl, rfl⟩ := ptrOf_rel hx hp
    cases hd : rd h b o n with
    | none => rw [hd] at hv; cases hv
    | some xs =>
      rw [hd] at hv; cases hv
      obtain ⟨xs', r1, r2, r3, r4⟩ := rd_rel hr hb hd
      refine Sim.pure hr (v' := .agg xs'.toArray) ?_ (VRel.agg_iff (by simpa using r1))
      have hl := run_loadCells_list (P := P) w ⟨p.blk, p.base + o, none⟩ xs' (fun j v hj => by
        have := r4 j v hj
        unfold Addr.add
        split
        · rename_i h0; subst h0; exact this
        · exact this)
      have : xs'.length = n := by rw [← r1.length]; exact r2
      rw [this] at hl
      simp only [Instr.loadAt, Instr.sureAddr, loadVar, Sem.run_bind, Sem.run_pure, Result.andThen_ok, aggB_run ht, if_true, sizeB_run hn, hl]
  · cases hv

def store (h : H) (n : Nat) (a x : Value) : Option H :=
  match ptrOf a, vcells x with
  | some (b, o), some xs => if xs.length = n then wr h b o xs else none
  | _, _ => none

theorem sim_store (hr : HRel B0 β h w) {t : TypeId} {n : Nat} {a a' x x' : Value} {h' : H} (hn : sizeB P t = some n) (ha : VRel β a a') (hx : VRel β x x') (hv : store h n a x = some h') :
    ∃ w', (Instr.storeAt t a' x').run P w = .ok () w' ∧ Go1 B0 β h w β h' w' := by
  unfold store at hv
  split at hv
  · rename_i b o xs hp hc
    obtain ⟨p, hb, rfl, rfl⟩ := ptrOf_rel ha hp
    split at hv
    · rename_i hl
      obtain ⟨xs', e1, e2, _⟩ := vcells_rel hx hc
      obtain ⟨w', r1, r2⟩ := wr_rel P hr hb hv e2
      refine ⟨w', ?_, r2⟩
      have hlen := e2.length
      simp only [Instr.storeAt, Instr.sureAddr, storeVar, Sem.run_bind, Sem.run_pure, Result.andThen_ok, sizeB_run hn, e1, Sem.run_ite]
      rw [if_neg (by simp; omega)]
      exact r1
    · cases hv
  · cases hv

/-! ### new blocks -/

/-- The cells of a block of ours, as they are laid at first. -/
theorem new_cells (hr : HRel B0 β h w) {xs xs' : List Value} (e : TypeId) (hl : LRel β xs xs') :
    Go1 B0 β h w (β.put h.next ⟨w.heap.size, 0, xs.length⟩) (h.new (.cells xs e .var)) (w.alloc (.cells xs'.toArray e)) := by
  refine Go1.new hr _ _ _ ?_ (by intro c e; simp)
  have hβ : β.le (β.put h.next ⟨w.heap.size, 0, xs.length⟩) := fun b p e => by
    rw [Ren.put_other]; exact e
    rintro rfl; rw [(hr.fresh _ (Nat.le_refl _)).1] at e; cases e
  refine ⟨xs'.toArray, e, (0, 0), by show (w.heap.push _)[w.heap.size]? = _; simp, by simp [hl.length], ?_, Nat.le_refl _, fun _ => rfl, fun _ => rfl, (fun h => by cases h), fun _ => ⟨rfl, by simp [hl.length]⟩⟩
  have : (List.take xs.length (List.drop 0 xs'.toArray.toList)) = xs' := by
    rw [hl.length]; simp
  rw [this]
  exact hl.mono hβ

theorem newRow_run (e : TypeId) (c : Array Value) (w : World) : (newRow e c).run P w = .ok ⟨w.heap.size, 0, none⟩ (w.alloc (.cells c e)) := rfl

theorem sim_new (hr : HRel B0 β h w) {xs xs' : List Value} (e : TypeId) (hl : LRel β xs xs') {s : Sem Value}
    (hs : s.run P w = .ok (.pointer (some ⟨w.heap.size, 0, none⟩)) (w.alloc (.cells xs'.toArray e))) :
    Sim P B0 β h w s (.pointer (some ⟨h.next, 0, none⟩)) (h.new (.cells xs e .var)) := by
  have hg := new_cells hr e hl
  refine ⟨_, _, _, hs, ?_, hg⟩
  exact VRel.ptr (p := ⟨w.heap.size, 0, xs.length⟩) (Ren.put_same _ _ _)

/-- What a new variable of a type holds. -/
def zeroB (P : Program) (t : TypeId) : Option (List Value) :=
  match P.info? t with
  | some i => match i.zero with
    | some z => if z.cells.toList.all flat1 then some z.cells.toList else none
    | none => none
  | none => none

theorem flat1_list {l : List Value} (h : l.all flat1 = true) : LRel β l l := by
  induction l with
  | nil => exact .nil
  | cons a l ih =>
    simp only [List.all_cons, Bool.and_eq_true] at h
    exact .cons (VRel.of_flat1 h.1) (ih h.2)

theorem zeroB_run {t : TypeId} {zs : List Value} (hz : zeroB P t = some zs) : ∃ z, (∀ w : World, (zeroValue t).run P w = .ok z w) ∧ z.cells = zs.toArray ∧ zs.all flat1 = true := by
  unfold zeroB at hz
  split at hz
  · rename_i i hi
    split at hz
    · rename_i z hz0
      split at hz
      · rename_i hf
        cases hz
        refine ⟨z, fun w => ?_, by simp, hf⟩
        simp [zeroValue, run_typeInfo w hi, hz0]
      · cases hz
    · cases hz
  · cases hz

theorem sim_alloc (hr : HRel B0 β h w) {e : TypeId} {zs : List Value} (hz : zeroB P e = some zs) :
    Sim P B0 β h w (Instr.alloc e true (.tuple #[])) (.pointer (some ⟨h.next, 0, none⟩)) (h.new (.cells zs e .var)) := by
  obtain ⟨z, h1, h2, h3⟩ := zeroB_run hz
  refine sim_new hr e (flat1_list h3) ?_
  simp [Instr.alloc, h1, newVar, newRow_run, h2]

theorem sim_box (hr : HRel B0 β h w) {e : TypeId} {x x' : Value} {xs : List Value} (hx : VRel β x x') (hc : vcells x = some xs) :
    Sim P B0 β h w (Instr.box e x') (.pointer (some ⟨h.next, 0, none⟩)) (h.new (.cells xs e .var)) := by
  obtain ⟨xs', e1, e2, _⟩ := vcells_rel hx hc
  refine sim_new hr e e2 ?_
  simp [Instr.box, newVar, newRow_run, e1]

/-! ### addresses -/

def fieldOff (P : Program) (s : TypeId) (f : Nat) : Option Nat :=
  match P.underlying s with
  | some (.struct fs) => match fs[f]? with
    | some fd => match sizeB P fd.type with
      | some n => if n = 0 then none else some fd.offset
      | none => none
    | none => none
  | _ => none

def shift (n : Nat) (x : Value) : Option Value :=
  match ptrOf x with
  | some (b, o) => some (.pointer (some ⟨b, o + n, none⟩))
  | none => none

theorem add_at (b o n : Nat) : Addr.add ⟨b, o, none⟩ n = ⟨b, o + n, none⟩ := by
  unfold Addr.add; split
  · rename_i h0; subst h0; rfl
  · rfl

theorem sim_fieldAddr (hr : HRel B0 β h w) {s : TypeId} {f n : Nat} {x x' v : Value} (hs : fieldOff P s f = some n) (hx : VRel β x x') (hv : shift n x = some v) :
    Sim P B0 β h w (Instr.fieldAt s x' f) v h := by
  unfold shift at hv
  split at hv
  · rename_i b o hp
    cases hv
    obtain ⟨p, hb, rfl, rfl⟩ := ptrOf_rel hx hp
    unfold fieldOff at hs
    split at hs
    · rename_i fs hu
      split at hs
      · rename_i fd hf
        split at hs
        · rename_i m hm
          split at hs
          · cases hs
          · rename_i hm0
            cases hs
            refine Sim.pure hr (v' := .pointer (some ⟨p.blk, p.base + (o + fd.offset), none⟩)) ?_ (.ptr hb)
            simp only [Instr.fieldAt, Sem.run_bind, run_underlying hu, Result.andThen_ok, hf, Instr.sureAddr, Sem.run_pure, fieldPlace, sizeB_run hm, Sem.run_ite, if_neg hm0, add_at, Nat.add_assoc]
        · cases hs
      · cases hs
    · cases hs
  · cases hv

def sliceElem (P : Program) (t : TypeId) (n : Nat) : Bool :=
  match P.underlying t with
  | some (.slice e) => sizeB P e == some n
  | _ => false

/-- A slice's data: block, first cell, length, cells of an element. -/
def slOf : Value → Option (Nat × Nat × Nat × Nat)
  | .slice (some ⟨b, o, none⟩) n e => some (b, o, n, e)
  | _ => none

def idxAddr (esz : Nat) (x i : Value) : Option Value :=
  match slOf x, i with
  | some (b, o, n, e), .int _ k => if 0 ≤ k ∧ k < n ∧ e = esz then some (.pointer (some ⟨b, o + k.toNat * esz, none⟩)) else none
  | _, _ => none

theorem slOf_rel {x x' : Value} {b o n e : Nat} (hv : VRel β x x') (hx : slOf x = some (b, o, n, e)) : ∃ p, β b = some p ∧
    ((∃ cc, x' = .slice (some ⟨p.blk, p.base + o, none⟩) n cc ∧ n ≤ cc ∧ o + cc * e = p.ext) ∨ (∃ a, n = 0 ∧ x' = .slice (some a) 0 0 ∧ o = p.ext)) := by
  unfold slOf at hx
  split at hx
  · cases hx
    cases hv with
    | slice cc h hl he => exact ⟨_, h, .inl ⟨cc, rfl, hl, he⟩⟩
    | slice0 a h ho => exact ⟨_, h, .inr ⟨a, rfl, rfl, ho⟩⟩
  · cases hx

theorem sim_idxAddr (hr : HRel B0 β h w) {t : TypeId} {n : Nat} {x x' i i' v : Value} (hs : sliceElem P t n = true) (hx : VRel β x x') (hi : VRel β i i') (hv : idxAddr n x i = some v) :
    Sim P B0 β h w (Instr.indexAt t x' i') v h := by
  unfold idxAddr at hv
  split at hv
  · rename_i b o m e kk k hp
    obtain rfl := hi.of_int
    split at hv
    · rename_i hk
      cases hv
      unfold sliceElem at hs
      split at hs
      · rename_i te hu
        obtain ⟨p, hb, ⟨cc, rfl, hl, he⟩ | ⟨a, rfl, rfl, ho⟩⟩ := slOf_rel hx hp
        · refine Sim.pure hr (v' := .pointer (some ⟨p.blk, p.base + (o + k.toNat * n), none⟩)) ?_ (.ptr hb)
          have hk2 : 0 ≤ k ∧ k < (m : Int) := ⟨hk.1, hk.2.1⟩
          simp only [Instr.indexAt, asIntOf, Sem.run_bind, Sem.run_pure, run_underlying hu, Result.andThen_ok, Sem.run_ite, if_pos hk2, sizeB_run (eq_of_beq hs), add_at, Nat.add_assoc]
        · exact absurd hk.2.1 (by have := hk.1; omega)
      · cases hs
    · cases hv
  · cases hv

end
end Go.Abs
