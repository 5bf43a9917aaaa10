import Derived.Test.YtajobphlclafdaaGreatDoorEngB
import Derived.Laws.Entries
import Derived.ChangeKeysEq
set_option linter.unusedVariables false
set_option linter.unusedSimpArgs false
/-! Reading and writing cells. -/
namespace Go.Abs
open Go.RowKit (Below)

/-- The cells of an abstract block. -/
def H.cells (h : H) (b : Nat) : Option (List Value) :=
  match h.get b with
  | some (.cells c _ _) => some c
  | _ => none

def rd (h : H) (b o n : Nat) : Option (List Value) :=
  match h.get b with
  | some (.cells c _ _) => if o + n ≤ c.length then some ((c.drop o).take n) else none
  | _ => none

theorem rd_rel {B0 : Nat} {β : Ren} {h : H} {w : World} (hr : HRel B0 β h w) {b o n : Nat} {p : Place} {xs : List Value} (hp : β b = some p) (hx : rd h b o n = some xs) :
    ∃ xs', LRel β xs xs' ∧ xs.length = n ∧ o + n ≤ p.ext ∧ (∀ j v, xs'[j]? = some v → w.cell? ⟨p.blk, p.base + o + j, none⟩ = some v) := by
  unfold rd at hx
  split at hx
  · rename_i c e m hb
    split at hx
    · rename_i hl
      cases hx
      obtain ⟨arr, t, fz, h1, h2, h3, h4, _⟩ := hr.obj b _ p hb hp
      refine ⟨_, (h3.drop o).take n, by simp; omega, by omega, fun j v hj => ?_⟩
      simp only [World.cell?, h1]
      rw [List.getElem?_take] at hj
      split at hj
      · rw [List.getElem?_drop, List.getElem?_take] at hj
        split at hj
        · rw [List.getElem?_drop] at hj
          rw [← Array.getElem?_toList]
          rw [← hj, if_neg (by simp)]
          congr 1
          omega
        · cases hj
      · cases hj
    · cases hx
  · cases hx

theorem LRel.some {β : Ren} {v : Value} {l : List Value} (h : LRel β [v] l) : ∃ v', l = [v'] ∧ VRel β v v' := by
  cases h with
  | cons h t => cases t; exact ⟨_, rfl, h⟩

/-- A value of one cell that is told. -/
def one (v : Value) : Bool := match v with
  | .agg _ | .tuple _ | .float _ _ => false
  | _ => true
theorem one_rel {β : Ren} {v v' : Value} (h : VRel β v v') (ho : one v = true) : v'.oneCell' = true := by
  cases h <;> first | rfl | (exact absurd ho Bool.false_ne_true)

theorem run_loadVar_one {P : Program} {w : World} {t : TypeId} {a : Addr} {d : TypeDesc} {v : Value} (hu : P.underlying t = some d) (hd : (match d with | .struct _ | .array _ _ => true | _ => false) = false)
    (hv : w.cell? a = some v) : (loadVar t a).run P w = .ok v w := by
  have : (isAgg t).run P w = .ok false w := by
    simp only [isAgg, Sem.run_bind, run_underlying hu, Result.andThen_ok]
    split <;> first | rfl | (simp at hd)
  simp [loadVar, this, hv]

theorem run_loadVar_agg {P : Program} {w : World} {t : TypeId} {b o n : Nat} {d : TypeDesc} {i : TypeInfo} {xs : List Value} (hu : P.underlying t = some d) (hd : (match d with | .struct _ | .array _ _ => true | _ => false) = true)
    (hi : P.info? t = some i) (hn : i.size = n) (hl : xs.length = n) (hv : ∀ j v, xs[j]? = some v → w.cell? ⟨b, o + j, none⟩ = some v) : (loadVar t ⟨b, o, none⟩).run P w = .ok (.agg xs.toArray) w := by
  have h1 : (isAgg t).run P w = .ok true w := by
    simp only [isAgg, Sem.run_bind, run_underlying hu, Result.andThen_ok]
    cases d <;> first | rfl | (exact absurd hd Bool.false_ne_true)
  have h2 := run_sizeOf (P := P) (w := w) hi
  have h3 : P.cellsOf t = xs.length := by simp [Program.cellsOf, hi, hn, hl]
  rw [h3] at h2
  have h4 := run_loadCells_list (P := P) w ⟨b, o, none⟩ xs (fun j v hj => by
    have := hv j v hj
    unfold Addr.add
    split
    · rename_i h0; subst h0; simpa using this
    · exact this)
  simp [loadVar, h1, h2, h4]

/-- The world with one block written over. -/
structure Upd (w w' : World) (g : Nat) : Prop where
  other : ∀ k, k ≠ g → w'.heap[k]? = w.heap[k]?
  size : w'.heap.size = w.heap.size
  os : w'.os = w.os
  tape : w'.tape = w.tape
  output : w'.output = w.output

theorem Upd.refl (w : World) (g : Nat) : Upd w w g := ⟨fun _ _ => rfl, rfl, rfl, rfl, rfl⟩
theorem Upd.trans {a b c : World} {g : Nat} (h : Upd a b g) (k : Upd b c g) : Upd a c g :=
  ⟨fun i hi => (k.other i hi).trans (h.other i hi), k.size.trans h.size, k.os.trans h.os, k.tape.trans h.tape, k.output.trans h.output⟩
theorem Upd.setCell (w : World) (a : Addr) (v : Value) : Upd w (w.setCell a v) a.block :=
  ⟨fun k hk => Below.heap_setCell w a v k hk, by simp [World.setCell], rfl, rfl, rfl⟩

/-- xs laid over l from place i on. -/
def over (l : List Value) (i : Nat) (xs : List Value) : List Value := l.take i ++ xs ++ l.drop (i + xs.length)

theorem over_nil (l : List Value) (i : Nat) : over l i [] = l := by simp [over]
theorem over_cons (l : List Value) (i : Nat) (x : Value) (xs : List Value) (h : i < l.length) : over l i (x :: xs) = over (l.set i x) (i + 1) xs := by
  unfold over
  apply List.ext_getElem?
  intro j
  simp only [List.getElem?_append, List.length_append, List.length_take, List.length_cons, List.length_set, List.getElem?_take, List.getElem?_drop, List.getElem?_set]
  have e1 : min i l.length = i := by omega
  have e2 : min (i + 1) l.length = i + 1 := by omega
  rw [e1, e2]
  by_cases h1 : j < i
  · rw [if_pos (by omega), if_pos h1, if_pos h1, if_pos (by omega), if_pos (by omega), if_pos (by omega), if_neg (by omega)]
  · by_cases h2 : j = i
    · subst h2
      rw [if_pos (by omega), if_neg (by omega), if_pos (by omega), if_pos (by omega), if_pos (by omega), if_pos rfl]
      simp [h]
    · by_cases h3 : j < i + (xs.length + 1)
      · rw [if_pos h3, if_neg h1, if_pos (by omega), if_neg (by omega)]
        obtain ⟨k, rfl⟩ : ∃ k, j = i + 1 + k := ⟨j - (i + 1), by omega⟩
        rw [show i + 1 + k - i = k + 1 by omega, show i + 1 + k - (i + 1) = k by omega]
        simp
      · rw [if_neg h3, if_neg (by omega), if_neg (by omega)]
        congr 1
        omega

theorem over_length (l : List Value) (i : Nat) (xs : List Value) (h : i + xs.length ≤ l.length) : (over l i xs).length = l.length := by
  unfold over; simp; omega

theorem heap_setCell_same {w : World} {g o : Nat} {arr : Array Value} {t : TypeId} {fz : Nat × Nat} (h : w.heap[g]? = some (.cells arr t fz)) (v : Value) :
    (w.setCell ⟨g, o, none⟩ v).heap[g]? = some (.cells (arr.setIfInBounds o v) t fz) := by
  simp [World.setCell, Array.getElem?_modify, h]

theorem run_storeCells {P : Program} {g o : Nat} {t : TypeId} {fz : Nat × Nat} : ∀ (vs : List Value) (i : Nat) (arr : Array Value) (w : World), w.heap[g]? = some (.cells arr t fz) →
    o + i + vs.length ≤ arr.size → (∀ j, j < vs.length → ¬ (fz.1 ≤ o + i + j ∧ o + i + j < fz.2)) → (∀ v ∈ vs, v.oneCell' = true) →
    ∃ w' arr', (storeCells ⟨g, o, none⟩ vs i).run P w = .ok () w' ∧ Upd w w' g ∧ w'.heap[g]? = some (.cells arr' t fz) ∧ arr'.toList = over arr.toList (o + i) vs := by
  intro vs
  induction vs with
  | nil =>
    intro i arr w h _ _ _
    exact ⟨w, arr, by simp [storeCells], Upd.refl _ _, h, (over_nil _ _).symm⟩
  | cons v vs ih =>
    intro i arr w h hl hf ho
    simp only [List.length_cons] at hl
    have ha : Addr.add ⟨g, o, none⟩ i = ⟨g, o + i, none⟩ := by
      unfold Addr.add; split
      · rename_i h0; subst h0; rfl
      · rfl
    have hc : w.cell? ⟨g, o + i, none⟩ = some (arr[o + i]'(by omega)) := by
      simp [World.cell?, h]
    have hz : w.frozen? ⟨g, o + i, none⟩ = false := by
      have := hf 0 (by simp)
      simp only [World.frozen?, h]
      rcases Decidable.em (fz.1 ≤ o + i) with h1 | h1
      · have h2 : ¬ (o + i < fz.2) := fun h2 => this ⟨by omega, by omega⟩
        simp [h1, h2]
      · simp [h1]
    have hs := run_store P w ⟨g, o + i, none⟩ v .plain (ho v (by simp))
    rw [hc] at hs; simp only [hz, Bool.false_eq_true, if_false] at hs
    obtain ⟨w', arr', e1, e2, e3, e4⟩ := ih (i + 1) (arr.setIfInBounds (o + i) v) (w.setCell ⟨g, o + i, none⟩ v) (heap_setCell_same h v) (by simp; omega)
      (fun j hj => by have := hf (j + 1) (by simpa using hj); rw [show o + (i + 1) + j = o + i + (j + 1) by omega]; exact this) (fun x hx => ho x (by simp [hx]))
    refine ⟨w', arr', ?_, (Upd.setCell w ⟨g, o + i, none⟩ v).trans e2, e3, ?_⟩
    · rw [storeCells, ha]
      simp only [Sem.run_bind, hs, Result.andThen_ok, e1]
    · rw [e4, over_cons _ _ _ _ (by simp; omega)]
      simp [Nat.add_assoc]

theorem over_get (l : List Value) (i : Nat) (xs : List Value) (h : i + xs.length ≤ l.length) (j : Nat) :
    (over l i xs)[j]? = if j < i then l[j]? else if j < i + xs.length then xs[j - i]? else l[j]? := by
  unfold over
  have e1 : min i l.length = i := by omega
  simp only [List.getElem?_append, List.length_append, List.length_take, List.getElem?_take, List.getElem?_drop, e1]
  by_cases h1 : j < i
  · rw [if_pos (by omega), if_pos h1, if_pos h1, if_pos h1]
  · rw [if_neg h1, if_neg h1]
    by_cases h2 : j < i + xs.length
    · rw [if_pos h2, if_pos h2]
    · rw [if_neg h2, if_neg h2]
      congr 1; omega

theorem over_rel_out {l : List Value} {i : Nat} {xs : List Value} {base n : Nat} (h1 : i + xs.length ≤ l.length) (h2 : base ≤ i) (h3 : i + xs.length ≤ base + n) :
    ((over l i xs).drop base).take n = over ((l.drop base).take n) (i - base) xs := by
  apply List.ext_getElem?
  intro j
  have h4 : i - base + xs.length ≤ ((l.drop base).take n).length := by simp; omega
  rw [over_get _ _ _ h4, List.getElem?_take, List.getElem?_drop, over_get _ _ _ h1, List.getElem?_take, List.getElem?_drop]
  have c1 : (j < i - base) = (base + j < i) := by apply propext; omega
  have c2 : (j < i - base + xs.length) = (base + j < i + xs.length) := by apply propext; omega
  have c3 : j - (i - base) = base + j - i := by omega
  rw [c3]
  simp only [c1, c2]
  by_cases hj : j < n
  · simp only [hj, if_true]
  · have d1 : ¬ (base + j < i) := by omega
    have d2 : ¬ (base + j < i + xs.length) := by omega
    simp only [hj, d1, d2, if_false]

theorem LRel.over {β : Ren} {l l' xs xs' : List Value} (h : LRel β l l') (k : LRel β xs xs') (i : Nat) : LRel β (Abs.over l i xs) (Abs.over l' i xs') := by
  unfold Abs.over
  rw [k.length]
  exact ((h.take i).append k).append (h.drop _)

/-- Cells of an own block written over. -/
def wr (h : H) (b o : Nat) (xs : List Value) : Option H :=
  match h.get b with
  | some (.cells c e .own) => if o + xs.length ≤ c.length && xs.all one then some (h.set b (.cells (over c o xs) e .own)) else none
  | some (.cells c e .var) => if o + xs.length ≤ c.length && xs.all one then some (h.set b (.cells (over c o xs) e .var)) else none
  | _ => none

theorem wr_inv {h h' : H} {b o : Nat} {xs : List Value} (hx : wr h b o xs = some h') : ∃ c e m, h.get b = some (.cells c e m) ∧ (m = .own ∨ m = .var) ∧ o + xs.length ≤ c.length ∧ xs.all one = true ∧ h' = h.set b (.cells (over c o xs) e m) := by
  unfold wr at hx
  split at hx
  · rename_i c e hb
    split at hx
    · rename_i hc
      simp only [Bool.and_eq_true, decide_eq_true_eq] at hc
      cases hx; exact ⟨c, e, .own, hb, .inl rfl, hc.1, hc.2, rfl⟩
    · cases hx
  · rename_i c e hb
    split at hx
    · rename_i hc
      simp only [Bool.and_eq_true, decide_eq_true_eq] at hc
      cases hx; exact ⟨c, e, .var, hb, .inr rfl, hc.1, hc.2, rfl⟩
    · cases hx
  · cases hx

theorem wr_rel {B0 : Nat} {β : Ren} {h h' : H} {w : World} (P : Program) (hr : HRel B0 β h w) {b o : Nat} {p : Place} {xs xs' : List Value} (hp : β b = some p) (hx : wr h b o xs = some h') (hl : LRel β xs xs') :
    ∃ w', (storeCells ⟨p.blk, p.base + o, none⟩ xs').run P w = .ok () w' ∧ Go1 B0 β h w β h' w' := by
  obtain ⟨c, e, m, hb, hmode, hc1, hc2, rfl⟩ := wr_inv hx
  have hmine : (AObj.cells c e m).mine = true := by rcases hmode with rfl | rfl <;> rfl
  obtain ⟨arr, t, fz, h1, h2, h3, h4, h5, h6, h7, h8⟩ := hr.obj b _ p hb hp
  have hlen := hl.length
  have hone : ∀ v ∈ xs', v.oneCell' = true := by
    intro v hv
    obtain ⟨j, hj⟩ := List.getElem?_of_mem hv
    have hjl : j < xs.length := by rw [hlen]; exact (List.getElem?_eq_some_iff.1 hj).1
    obtain ⟨v', e1, e2⟩ := hl.get (List.getElem?_eq_getElem hjl)
    rw [hj] at e1; cases e1
    exact one_rel e2 (List.all_eq_true.1 hc2 _ (List.getElem_mem hjl))
  obtain ⟨w', arr', e1, e2, e3, e4⟩ := run_storeCells (P := P) (o := p.base + o) xs' 0 arr w h1 (by omega) (fun j hj => by rw [h6 hmode]; simp) hone
  refine ⟨w', e1, Go1.set hr hb hp hmine ?_ (by intro c e hh; cases hh; rcases hmode with hh | hh <;> cases hh) e2.other e2.size e2.os e2.tape e2.output⟩
  have hsz : arr'.size = arr.size := by
    have := congrArg List.length e4
    rw [over_length _ _ _ (by simp; omega)] at this
    simpa using this
  refine ⟨arr', t, fz, e3, by omega, ?_, by rw [over_length _ _ _ hc1]; exact h4, h5, h6, fun h => ?_, fun h => by rw [over_length _ _ _ hc1, hsz]; exact h8 h⟩
  · rw [e4, over_length _ _ _ hc1, over_rel_out (by simp; omega) (by omega) (by omega)]
    rw [show p.base + o + 0 - p.base = o by omega]
    exact h3.over hl o
  · subst h; rcases hmode with hh | hh <;> cases hh

end Go.Abs
