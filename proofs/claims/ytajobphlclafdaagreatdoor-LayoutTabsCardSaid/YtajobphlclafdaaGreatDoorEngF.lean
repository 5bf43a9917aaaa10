import Derived.Test.YtajobphlclafdaaGreatDoorEngE
set_option linter.unusedVariables false
set_option linter.unusedSimpArgs false
/-! Aggregates that are built, new rows, append, copy. -/
namespace Go.Abs
open Go.RowKit (Below)
section
variable {P : Program} {B0 : Nat} {β : Ren} {h : H} {w : World}

/-! ### laying parts into cells -/

/-- parts (number, value) laid into cells; place: where a part lies, how many cells it has. -/
def fillA (place : Nat → Option (Nat × Nat)) (cells : List Value) : List (Nat × Value) → Option (List Value)
  | [] => some cells
  | (i, v) :: rest =>
    match place i, vcells v with
    | some (off, size), some xs => if xs.length = size ∧ off + size ≤ cells.length then fillA place (over cells off xs) rest else none
    | _, _ => none

theorem fold_over (off : Nat) : ∀ (vs : List Value) (j : Nat) (cells : Array Value), off + j + vs.length ≤ cells.size →
    ((vs.zipIdx j).foldl (fun (cs : Array Value) (x : Value × Nat) => cs.setIfInBounds (off + x.2) x.1) cells).toList = over cells.toList (off + j) vs := by
  intro vs
  induction vs with
  | nil => intro j cells _; simp [over]
  | cons v vs ih =>
    intro j cells hl
    simp only [List.length_cons] at hl
    rw [List.zipIdx_cons, List.foldl_cons]
    have := ih (j + 1) (cells.setIfInBounds (off + j) v) (by simp; omega)
    rw [this, over_cons _ _ _ _ (by simp; omega)]
    simp [Nat.add_assoc]

theorem zip_fold_array (off : Nat) (a : Array Value) (cells : Array Value) :
    (a.zipIdx.foldl (fun (cs : Array Value) (x : Value × Nat) => cs.setIfInBounds (off + x.2) x.1) cells) =
      ((a.toList.zipIdx 0).foldl (fun (cs : Array Value) (x : Value × Nat) => cs.setIfInBounds (off + x.2) x.1) cells) := by
  rw [← Array.foldl_toList]
  simp

/-- Lists of parts, side by side. -/
inductive PRel (β : Ren) : List (Nat × Value) → List (Nat × Value) → Prop
  | nil : PRel β [] []
  | cons {i : Nat} {v v' : Value} {l l' : List (Nat × Value)} (h : VRel β v v') (t : PRel β l l') : PRel β ((i, v) :: l) ((i, v') :: l')

theorem fill_rel {place : Nat → Option (Nat × Nat)} {ps ps' : List (Nat × Value)} (hp : PRel β ps ps') : ∀ {cells ys : List Value} {cells' : Array Value}, LRel β cells cells'.toList →
    fillA place cells ps = some ys → ∃ ys', Instr.fill place cells' ps' = some ys' ∧ LRel β ys ys'.toList := by
  induction hp with
  | nil => intro cells ys cells' hc hf; cases hf; exact ⟨cells', rfl, hc⟩
  | @cons i v v' l l' h t ih =>
    intro cells ys cells' hc hf
    simp only [fillA] at hf
    split at hf
    · rename_i off size xs hpl hx
      split at hf
      · rename_i hsz
        obtain ⟨xs', e1, e2, _⟩ := vcells_rel h hx
        have hlen := e2.length
        have hcl := hc.length
        have hs2 : cells'.size = cells.length := by simpa using hcl.symm
        have hcond : ¬ (v'.cells.size ≠ size ∨ off + v'.cells.size > cells'.size) := by rw [e1, hs2]; simp; omega
        have hb : (v'.cells.size ≠ size || off + v'.cells.size > cells'.size) = false := by
          simp only [ne_eq, Bool.or_eq_false_iff, decide_eq_false_iff_not, Decidable.not_not, gt_iff_lt]
          rw [e1, hs2]; simp; omega
        have key : (v'.cells.zipIdx.foldl (fun (cs : Array Value) (x : Value × Nat) => cs.setIfInBounds (off + x.2) x.1) cells').toList = over cells'.toList off xs' := by
          rw [zip_fold_array, fold_over off _ 0 _ (by rw [e1, hs2]; simp; omega), e1]; simp
        obtain ⟨ys', r1, r2⟩ := ih (cells' := v'.cells.zipIdx.foldl (fun (cs : Array Value) (x : Value × Nat) => cs.setIfInBounds (off + x.2) x.1) cells') (by rw [key]; exact hc.over e2 off) hf
        refine ⟨ys', ?_, r2⟩
        simp only [Instr.fill, hpl]
        rw [if_neg (by simpa using hcond)]
        exact r1
      · cases hf
    · cases hf

theorem fillA_length {place : Nat → Option (Nat × Nat)} : ∀ {ps : List (Nat × Value)} {cells ys : List Value}, fillA place cells ps = some ys → ys.length = cells.length := by
  intro ps
  induction ps with
  | nil => intro cells ys hh; cases hh; rfl
  | cons q rest ih =>
    intro cells ys hh
    obtain ⟨i, v⟩ := q
    simp only [fillA] at hh
    split at hh
    · split at hh
      · rename_i hb; rw [ih hh, over_length _ _ _ (by omega)]
      · cases hh
    · cases hh

/-- Where a struct's fields lie. -/
def placesB (P : Program) (fs : List Field) : Option (List (Nat × Nat)) :=
  match fs with
  | [] => some []
  | f :: rest => match sizeB P f.type, placesB P rest with
    | some n, some l => some ((f.offset, n) :: l)
    | _, _ => none

theorem placesB_run : ∀ {fs : List Field} {l : List (Nat × Nat)}, placesB P fs = some l → (fs.mapM (m := Sem) fun f => do pure (f.offset, ← sizeOf f.type)).run P w = .ok l w := by
  intro fs
  induction fs with
  | nil => intro l hl; cases hl; simp
  | cons f rest ih =>
    intro l hl
    simp only [placesB] at hl
    split at hl
    · rename_i n l' hn hl'
      cases hl
      simp only [List.mapM_cons, Sem.run_bind, sizeB_run hn, Result.andThen_ok, Sem.run_pure, ih hl']
    · cases hl

def structPlaces (P : Program) (t : TypeId) : Option (List (Nat × Nat)) :=
  match P.underlying t with
  | some (.struct fs) => placesB P fs.toList
  | _ => none

def buildA (places : List (Nat × Nat)) (zero : List Value) (parts : List (Nat × Value)) : Option Value :=
  (fillA (places[·]?) zero parts).map fun xs => .agg xs.toArray

theorem sim_build (hr : HRel B0 β h w) {t : TypeId} {places : List (Nat × Nat)} {zs : List Value} {ps : List (Nat × Value)} {ps' : Array (Nat × Value)} {v : Value}
    (hs : structPlaces P t = some places) (hz : zeroB P t = some zs) (hp : PRel β ps ps'.toList) (hv : buildA places zs ps = some v) :
    Sim P B0 β h w (Instr.build t ps') v h := by
  unfold structPlaces at hs
  split at hs
  case h_2 => cases hs
  rename_i fs hu
  obtain ⟨z, h1, h2, h3⟩ := zeroB_run hz
  unfold buildA at hv
  cases hf : fillA (places[·]?) zs ps with
  | none => rw [hf] at hv; cases hv
  | some ys =>
    rw [hf] at hv; cases hv
    have hm : (fs.mapM (m := Sem) fun f => do pure (f.offset, ← sizeOf f.type)).run P w = .ok places.toArray w := by
      rw [← Array.toArray_toList (xs := fs), List.mapM_toArray]
      rw [Sem.run_map, placesB_run hs]; rfl
    obtain ⟨ys', r1, r2⟩ := fill_rel (place := fun i => places.toArray[i]?) (cells' := zs.toArray) hp (by simpa using flat1_list h3) (by simpa using hf)
    refine Sim.pure hr (v' := .agg ys') ?_ (VRel.agg_iff (by simpa using r2))
    simp only [Instr.build, Sem.run_bind, h1, Result.andThen_ok, run_underlying hu, hm, h2, r1, Sem.run_pure]

/-- n elements of a type, each as it is at first -/
def zeros (zs : List Value) : Nat → List Value
  | 0 => []
  | n + 1 => zs ++ zeros zs n

theorem zeros_length (zs : List Value) (n : Nat) : (zeros zs n).length = n * zs.length := by
  induction n with
  | zero => simp [zeros]
  | succ n ih => simp [zeros, ih, Nat.succ_mul]; omega

theorem zeros_get (zs : List Value) (n : Nat) : ∀ i, i < n * zs.length → (zeros zs n)[i]? = zs[i % zs.length]? := by
  induction n with
  | zero => intro i hi; simp at hi
  | succ n ih =>
    intro i hi
    simp only [zeros, List.getElem?_append]
    split
    · rename_i hlt; rw [Nat.mod_eq_of_lt hlt]
    · rename_i hge
      rw [ih (i - zs.length) (by rw [Nat.succ_mul] at hi; omega)]
      rw [Nat.mod_eq_sub_mod (by omega : i ≥ zs.length)]

theorem zeros_array (zs : List Value) (n : Nat) : ((Array.range (n * zs.length)).map (zs.toArray[· % zs.length]!)).toList = zeros zs n := by
  apply List.ext_getElem?
  intro i
  by_cases hi : i < n * zs.length
  · rw [zeros_get zs n i hi]
    have hz : 0 < zs.length := by
      rcases Nat.eq_zero_or_pos zs.length with h0 | h0
      · rw [h0] at hi; simp at hi
      · exact h0
    have hm := Nat.mod_lt i hz
    simp only [Array.toList_map, Array.toList_range, List.getElem?_map, List.getElem?_range hi, Option.map_some]
    rw [List.getElem?_eq_getElem hm]
    simp [hm]
  · rw [List.getElem?_eq_none (by simp; omega), List.getElem?_eq_none (by rw [zeros_length]; omega)]

theorem zeros_flat {zs : List Value} (h : zs.all flat1 = true) (n : Nat) : (zeros zs n).all flat1 = true := by
  induction n with
  | zero => rfl
  | succ n ih => simp [zeros, List.all_append, h, ih]

def sliceInfo (P : Program) (t : TypeId) : Option (TypeId × Nat) :=
  match P.underlying t with
  | some (.slice e) => (sizeB P e).map fun n => (e, n)
  | _ => none

theorem sliceInfo_spec {t e : TypeId} {n : Nat} (hs : sliceInfo P t = some (e, n)) : P.underlying t = some (.slice e) ∧ sizeB P e = some n := by
  unfold sliceInfo at hs
  split at hs
  · rename_i e' hu
    cases hn : sizeB P e' with
    | none => rw [hn] at hs; cases hs
    | some m => rw [hn] at hs; cases hs; exact ⟨hu, hn⟩
  · cases hs

def buildSlA (e : TypeId) (esz len : Nat) (zs : List Value) (parts : List (Nat × Value)) (h : H) : Option (Value × H) :=
  if len * esz ≤ 16777216 ∧ zs.length = esz ∧ 0 < esz then
    match fillA (fun i => some (i * esz, esz)) (zeros zs len) parts with
    | some xs => some (.slice (some ⟨h.next, 0, none⟩) len esz, h.new (.cells xs e .var))
    | none => none
  else none

theorem sim_buildSl (hr : HRel B0 β h w) {t e : TypeId} {esz len : Nat} {zs : List Value} {ps : List (Nat × Value)} {ps' : Array (Nat × Value)} {v : Value} {h' : H}
    (hs : sliceInfo P t = some (e, esz)) (hz : zeroB P e = some zs) (hp : PRel β ps ps'.toList) (hv : buildSlA e esz len zs ps h = some (v, h')) :
    Sim P B0 β h w (Instr.buildSlice t len ps') v h' := by
  obtain ⟨hu, hn⟩ := sliceInfo_spec hs
  obtain ⟨z, h1, h2, h3⟩ := zeroB_run hz
  unfold buildSlA at hv
  split at hv
  · rename_i hc
    split at hv
    · rename_i xs hf
      cases hv
      have hlen : zs.toArray.size = esz := by simpa using hc.2.1
      have hzero : ((Array.range (len * esz)).map (zs.toArray[· % zs.toArray.size]!)).toList = zeros zs len := by
        have := zeros_array zs len
        rw [hc.2.1] at this
        rw [hlen]; exact this
      have h16 : ¬ (len * esz > 2 ^ 24) := by have := hc.1; omega
      by_cases h0 : len * esz = 0
      · have hl0 : len = 0 := by rcases Nat.mul_eq_zero.1 h0 with hx | hx <;> omega
        obtain ⟨ys', r1, r2⟩ := fill_rel (place := fun i => some (i * esz, esz)) (cells' := (Array.range (len * esz)).map ((#[] : Array Value)[· % (#[] : Array Value).size]!)) hp
          (by subst hl0; simp [zeros]; exact .nil) hf
        have hrun : (Instr.buildSlice t len ps').run P w = .ok (.slice (some ⟨w.heap.size, 0, none⟩) len len) (w.alloc (.cells ys' e)) := by
          simp only [Instr.buildSlice, Sem.run_bind, run_underlying hu, Result.andThen_ok, sizeB_run hn, Sem.run_ite, if_neg h16, if_pos h0, Sem.run_pure, r1, newRow_run]
        have hg := new_cells hr e r2
        rw [Array.toArray_toList] at hg
        refine ⟨_, _, _, hrun, ?_, hg⟩
        refine VRel.slice (p := ⟨w.heap.size, 0, xs.length⟩) len (Ren.put_same _ _ _) (Nat.le_refl _) ?_
        subst hl0
        have hx0 : xs.length = 0 := by rw [fillA_length hf]; rfl
        simp [hx0]
      · obtain ⟨ys', r1, r2⟩ := fill_rel (place := fun i => some (i * esz, esz)) (cells' := (Array.range (len * esz)).map (zs.toArray[· % zs.toArray.size]!)) hp
          (by rw [hzero]; exact flat1_list (zeros_flat h3 _)) hf
        have hrun : (Instr.buildSlice t len ps').run P w = .ok (.slice (some ⟨w.heap.size, 0, none⟩) len len) (w.alloc (.cells ys' e)) := by
          simp only [Instr.buildSlice, Sem.run_bind, run_underlying hu, Result.andThen_ok, sizeB_run hn, Sem.run_ite, if_neg h16, if_neg h0, Sem.run_pure, h1, h2, r1, newRow_run]
        have hg := new_cells hr e r2
        rw [Array.toArray_toList] at hg
        refine ⟨_, _, _, hrun, ?_, hg⟩
        refine VRel.slice (p := ⟨w.heap.size, 0, xs.length⟩) len (Ren.put_same _ _ _) (Nat.le_refl _) ?_
        rw [fillA_length hf, zeros_length, hc.2.1]; simp
    · cases hv
  · cases hv

end
end Go.Abs
