import Derived.Test.YtajobphlclafdaaGreatDoorEngR
set_option linter.unusedVariables false
set_option linter.unusedSimpArgs false
/-! Regions that draw their order: the theorem. -/
namespace Go.Abs
open Go.RowKit (Below)
section
variable {P : Program} {ops : Array Oper} {n : Nat} {F : FF}

/-- What has come up. -/
def up (listed : Array Bool) : Nat → Prop := fun i => listed.getD i false = true

theorem up_set {listed : Array Bool} {i : Nat} (hi : i < listed.size) : up (listed.setIfInBounds i true) = more (up listed) i := by
  funext j
  apply propext
  show (listed.setIfInBounds i true).getD j false = true ↔ listed.getD j false = true ∨ j = i
  by_cases e : i = j
  · subst e
    simp [Array.getD_eq_getD_getElem?, hi]
  · simp only [Array.getD_eq_getD_getElem?]
    rw [Array.getElem?_setIfInBounds_ne e]
    constructor
    · exact .inl
    · rintro (h | h)
      · exact h
      · exact absurd h.symm e

theorem count_set {listed : Array Bool} {i : Nat} (hi : i < listed.size) (h : listed.getD i true = false) : (listed.setIfInBounds i true).count false + 1 = listed.count false := by
  have hg : listed[i] = false := by simpa [Array.getD_eq_getD_getElem?, hi] using h
  have hpos : 0 < listed.count false := by
    rw [Array.count_pos_iff]
    exact hg ▸ Array.getElem_mem hi
  rw [Array.setIfInBounds_def, dif_pos hi, Array.count_set hi]
  simp [hg]
  omega

theorem all_up {listed : Array Bool} (h : listed.count false = 0) {i : Nat} (hi : i < listed.size) : up listed i := by
  rw [Array.count_eq_zero] at h
  unfold up
  have : listed.getD i false = listed[i] := by simp [Array.getD_eq_getD_getElem?, hi]
  rw [this]
  cases he : listed[i] with
  | true => rfl
  | false => exact absurd (he ▸ Array.getElem_mem hi) h

theorem not_all {listed : Array Bool} {k : Nat} (h : listed.count false = k + 1) : ∃ i, i < listed.size ∧ ¬ up listed i := by
  have hpos : 0 < listed.count false := by omega
  rw [Array.count_pos_iff] at hpos
  obtain ⟨i, hi, he⟩ := Array.getElem_of_mem hpos
  refine ⟨i, hi, ?_⟩
  unfold up
  simp [Array.getD_eq_getD_getElem?, hi, he]

theorem not_up {listed : Array Bool} {i : Nat} (hi : i < listed.size) : ¬ up listed i ↔ listed.getD i true = false := by
  unfold up
  simp [Array.getD_eq_getD_getElem?, hi]

/-- The first in a list that has not come up. -/
theorem first_not {p : Nat → Prop} [DecidablePred p] : ∀ {D : List Nat}, (∃ i ∈ D, ¬ p i) → ∃ D1 i D2, D = D1 ++ i :: D2 ∧ ¬ p i ∧ ∀ j ∈ D1, p j
  | [], ⟨i, hi, _⟩ => by simp at hi
  | k :: D, h => by
    by_cases hk : p k
    · obtain ⟨D1, i, D2, rfl, h2, h3⟩ := first_not (p := p) (D := D) (by
        obtain ⟨i, hi, hn⟩ := h
        simp only [List.mem_cons] at hi
        rcases hi with rfl | hi
        · exact absurd hk hn
        · exact ⟨i, hi, hn⟩)
      refine ⟨k :: D1, i, D2, rfl, h2, fun j hj => ?_⟩
      simp only [List.mem_cons] at hj
      rcases hj with rfl | hj
      · exact hk
      · exact h3 j hj
    · exact ⟨[], k, D, rfl, hk, fun j hj => by simp at hj⟩

theorem HRel.congr {B0 : Nat} {β : Ren} {h h' : H} {w : World} (hr : HRel B0 β h w) (hg : ∀ b, h'.get b = h.get b) (hn : h'.next = h.next) : HRel B0 β h' w :=
  ⟨fun b o p hb => hr.obj b o p (by rw [← hg]; exact hb), fun b o p hb => hr.mine b o p (by rw [← hg]; exact hb),
   fun b b' o o' p p' hb hb' => hr.apart b b' o o' p p' (by rw [← hg]; exact hb) (by rw [← hg]; exact hb'),
   fun b hb => ⟨(hr.fresh b (by rw [← hn]; exact hb)).1, by rw [hg]; exact (hr.fresh b (by rw [← hn]; exact hb)).2⟩, hr.glob,
   fun b c e p hb => hr.frg b c e p (by rw [← hg]; exact hb), hr.size, hr.gl⟩

theorem Go1.congr {B0 : Nat} {β β' : Ren} {h0 h h' : H} {w0 w : World} (g : Go1 B0 β h0 w0 β' h w) (hg : ∀ b, h'.get b = h.get b) (hn : h'.next = h.next) : Go1 B0 β h0 w0 β' h' w :=
  ⟨g.rel.congr hg hn, g.old, by rw [hn]; exact g.next, fun b hb hnone => by rw [hg]; exact g.kept b hb hnone, g.below⟩

/-! ### two that store, at the end -/

theorem storeB_spec {A : List AInstr} {i : Nat} (h : storeB A i = true) : ∃ n a x, A[i]? = some ⟨none, none, .store n a x⟩ := by
  unfold storeB at h
  split at h
  · rename_i n a x hx; exact ⟨n, a, x, hx⟩
  · cases h

theorem store_step {k : Nat} {a x : Operand} {t t2 : VT} {h h2 : H} (hs : stepA F n ⟨none, none, .store k a x⟩ t h = some (t2, h2)) : t2 = t ∧ store h k (rho t a) (rho t x) = some h2 := by
  simp only [stepA, wantedA, evalA, opA, putA] at hs
  cases hst : store h k (rho t a) (rho t x) with
  | none => rw [hst] at hs; cases hs
  | some h' => rw [hst] at hs; cases hs; exact ⟨rfl, rfl⟩
theorem step_store {k : Nat} {a x : Operand} {t : VT} {h h2 : H} (hs : store h k (rho t a) (rho t x) = some h2) : stepA F n ⟨none, none, .store k a x⟩ t h = some (t, h2) := by
  simp only [stepA, wantedA, evalA, opA, putA, hs]

theorem store_inv {h h2 : H} {k : Nat} {a x : Value} (hs : store h k a x = some h2) : ∃ b o xs c e m, ptrOf a = some (b, o) ∧ vcells x = some xs ∧ xs.length = k ∧ h.get b = some (.cells c e m) ∧ (m = .own ∨ m = .var) ∧ o + xs.length ≤ c.length ∧ xs.all one = true ∧ h2 = h.set b (.cells (over c o xs) e m) := by
  unfold store at hs
  split at hs
  · rename_i b o xs hp hx
    split at hs
    · rename_i hl
      obtain ⟨c, e, m, h1, h2, h3, h4, h5⟩ := wr_inv hs
      exact ⟨b, o, xs, c, e, m, hp, hx, hl, h1, h2, h3, h4, h5⟩
    · cases hs
  · cases hs
theorem store_of {h : H} {k : Nat} {a x : Value} {b o : Nat} {xs c : List Value} {e : TypeId} {m : Mode} (h1 : ptrOf a = some (b, o)) (h2 : vcells x = some xs) (h3 : xs.length = k) (h4 : h.get b = some (.cells c e m)) (h5 : m = .own ∨ m = .var) (h6 : o + xs.length ≤ c.length) (h7 : xs.all one = true) :
    store h k a x = some (h.set b (.cells (over c o xs) e m)) := by
  unfold store
  rw [h1, h2]
  simp only []
  rw [if_pos h3]
  unfold wr
  rw [h4]
  rcases h5 with rfl | rfl <;> simp [h6, h7]

/-- The other way round. -/
theorem stores_swap {k k' : Nat} {a x a' x' : Operand} {t t2 t3 : VT} {h h2 h3 : H} (hap : apartA t ⟨none, none, .store k a x⟩ ⟨none, none, .store k' a' x'⟩ = true)
    (h1 : stepA F n ⟨none, none, .store k a x⟩ t h = some (t2, h2)) (h2' : stepA F n ⟨none, none, .store k' a' x'⟩ t2 h2 = some (t3, h3)) :
    t2 = t ∧ t3 = t ∧ ∃ g2 g3, stepA F n ⟨none, none, .store k' a' x'⟩ t h = some (t, g2) ∧ stepA F n ⟨none, none, .store k a x⟩ t g2 = some (t, g3) ∧ (∀ b, h3.get b = g3.get b) ∧ h3.next = g3.next := by
  obtain ⟨rfl, s1⟩ := store_step h1
  obtain ⟨rfl, s2⟩ := store_step h2'
  obtain ⟨b, o, xs, c, e, m, p1, p2, p3, p4, p5, p6, p7, rfl⟩ := store_inv s1
  obtain ⟨b', o', xs', c', e', m', q1, q2, q3, q4, q5, q6, q7, rfl⟩ := store_inv s2
  have hne : b ≠ b' := by
    unfold apartA at hap
    simp only [p1, q1] at hap
    simpa using hap
  rw [H.get_set, if_neg (Ne.symm hne)] at q4
  refine ⟨rfl, rfl, _, _, step_store (store_of q1 q2 q3 q4 q5 q6 q7), step_store (store_of p1 p2 p3 (by rw [H.get_set, if_neg hne]; exact p4) p5 p6 p7), fun z => ?_, rfl⟩
  simp only [H.get_set]
  by_cases e1 : z = b <;> by_cases e2 : z = b'
  · exact absurd (e1.symm.trans e2) hne
  · simp [e1, hne]
  · simp [e2, Ne.symm hne]
  · simp [e1, e2]

/-- What may come up among those that have had their turn; the rest by its own. -/
theorem turn (hF : Good P F) (hT : tempsOk (order ops) ops (ins P ops) = true) {B0 : Nat} {β0 : Ren} {h0 : H} {w0 : World} {Q : Exit → Act → World → Prop} {D E : List Nat} {ids : Nat → Option Nat} {t : VT} {h : H}
    (hTopo : Topo ops D) (hlt : ∀ j ∈ D, j < ops.size)
    (hno : ∀ (listed : Array Bool) (β : Ren) (a : Act) (w : World), Inv P ops n B0 β0 h0 w0 D E ids true t h (up listed) β a w → (∀ i, i < ops.size → up listed i) → Q .normal a w)
    (hex : ∀ S : Nat → Prop, (∀ i ∈ D, S i) → (∀ i, S i → i ∈ D) → (∃ i, i < ops.size ∧ ¬ S i) → ∃ i o, ops[i]? = some o ∧ ¬ S i ∧ directOk o D = true)
    (hnext : ∀ (fuel : Nat) (listed : Array Bool) (β : Ren) (a : Act) (w : World) (i : Nat) (o : Oper), Inv P ops n B0 β0 h0 w0 D E ids true t h (up listed) β a w → listed.size = ops.size →
      (listed.setIfInBounds i true).count false = fuel → ops[i]? = some o → i ∉ D → (∀ e ∈ o.after, Region.binds .any e = true → up listed e.on) →
      wpOp P ops Q i (wpAny P .any ops Q fuel (listed.setIfInBounds i true)) a w) :
    ∀ (fuel : Nat) (listed : Array Bool) {β : Ren} {a : Act} {w : World}, Inv P ops n B0 β0 h0 w0 D E ids true t h (up listed) β a w → listed.size = ops.size → listed.count false = fuel → wpAny P .any ops Q fuel listed a w := by
  intro fuel
  induction fuel with
  | zero =>
    intro listed β a w hI hsize hcount
    have hall : ∀ i, i < ops.size → up listed i := fun i hi => all_up hcount (by omega)
    refine ⟨?_, hno listed β a w hI hall⟩
    apply List.eq_nil_iff_forall_not_mem.2
    intro i hi
    obtain ⟨m1, o, m2, _⟩ := mem_ready.1 hi
    have hilt : i < ops.size := (Array.getElem?_eq_some_iff.1 m2).1
    exact (not_up (by omega)).2 m1 (hall i hilt)
  | succ fuel ihf =>
    intro listed β a w hI hsize hcount
    have hsome : Region.ready .any ops listed ≠ [] := by
      classical
      intro hnil
      have hno : ∀ i, i ∉ Region.ready .any ops listed := by rw [hnil]; simp
      have hDall : ∀ i ∈ D, up listed i := by
        intro i hi
        apply Classical.byContradiction
        intro hn
        obtain ⟨D1, j, D2, e1, e2, e3⟩ := first_not (p := up listed) ⟨i, hi, hn⟩
        have hjlt := hlt j (by rw [e1]; simp)
        refine hno j (mem_ready.2 ⟨(not_up (by omega)).1 e2, ops[j], by simp [hjlt], fun e he hb => ?_⟩)
        exact e3 _ (hTopo D1 j D2 e1 ops[j] e (by simp [hjlt]) he hb)
      obtain ⟨i, hi, hn⟩ := not_all hcount
      obtain ⟨e, o, ho, hne, hdir⟩ := hex (up listed) hDall hI.sub ⟨i, by omega, hn⟩
      have helt : e < ops.size := (Array.getElem?_eq_some_iff.1 ho).1
      exact hno e (mem_ready.2 ⟨(not_up (by omega)).1 hne, o, ho, fun e' he hb => hDall _ (directOk_spec hdir e' he hb)⟩)
    refine ⟨fun h => absurd h hsome, ?_⟩
    intro i hi
    obtain ⟨m1, o, ho, m3⟩ := mem_ready.1 hi
    have hilt : i < ops.size := (Array.getElem?_eq_some_iff.1 ho).1
    have hnS : ¬ up listed i := (not_up (by omega)).2 m1
    have hcnt : (listed.setIfInBounds i true).count false = fuel := by
      have := count_set (i := i) (by omega) m1; omega
    have hsz : (listed.setIfInBounds i true).size = ops.size := by simpa using hsize
    by_cases hiD : i ∈ D
    · refine hI.up hF hT ho hiD hnS hlt m3 fun β' a' w' hI' => ?_
      rw [← up_set (by omega)] at hI'
      exact ihf _ hI' hsz hcnt
    · exact hnext fuel listed β a w i o hI hsize hcnt ho hiD m3

theorem directOk_mono {o : Oper} {D D' : List Nat} (h : directOk o D = true) (hs : ∀ i ∈ D, i ∈ D') : directOk o D' = true := by
  unfold directOk at *
  rw [List.all_eq_true] at *
  intro e he
  have := h e he
  simp only [Bool.or_eq_true, List.contains_eq_mem, decide_eq_true_eq] at *
  rcases this with h | h
  · exact .inl h
  · exact .inr (hs _ h)

/-- The last two, in this order. -/
theorem pair_end (hF : Good P F) (hT : tempsOk (order ops) ops (ins P ops) = true) {B0 : Nat} {β0 : Ren} {h0 : H} {w0 : World} {Q : Exit → Act → World → Prop} {D E : List Nat} {ids : Nat → Option Nat} {t t2 t3 : VT} {h h2 h3 : H}
    (hTopo : Topo ops D) (hlt : ∀ j ∈ D, j < ops.size) (hQ : ∀ β' a' w', Go1 B0 β0 h0 w0 β' h3 w' → TRel β' n t3 a' → Q .normal a' w')
    {x y : Nat} {ox oy : Oper} (hx : ops[x]? = some ox) (hy : ops[y]? = some oy) (hxD : x ∉ D) (hyD : y ∉ D) (hxy : x ≠ y) (ex : effB ops (ins P ops) x = true) (ey : effB ops (ins P ops) y = true)
    (dx : directOk ox D = true) (dy : directOk oy D = true) (hall : ∀ i, i < ops.size → i ∈ D ∨ i = x ∨ i = y)
    (hrd : ∀ i ∈ D, readB (ins P ops) i = true → ahead (order ops) i x = true)
    (s1 : stepA F n (compInstr P ops ox) t h = some (t2, h2)) (s2 : stepA F n (compInstr P ops oy) t2 h2 = some (t3, h3)) {fuel : Nat} {listed : Array Bool} {β : Ren} {a : Act} {w : World}
    (hI : Inv P ops n B0 β0 h0 w0 D E ids true t h (up listed) β a w) (hsize : listed.size = ops.size) (hcount : (listed.setIfInBounds x true).count false = fuel)
    (hpre : ∀ e ∈ ox.after, Region.binds .any e = true → up listed e.on) : wpOp P ops Q x (wpAny P .any ops Q fuel (listed.setIfInBounds x true)) a w := by
  have hxlt : x < ops.size := (Array.getElem?_eq_some_iff.1 hx).1
  have hylt : y < ops.size := (Array.getElem?_eq_some_iff.1 hy).1
  have hTopo2 := hTopo.snoc hx dx
  have hlt2 : ∀ j ∈ D ++ [x], j < ops.size := by
    intro j hj
    rcases List.mem_append.1 hj with hj | hj
    · exact hlt j hj
    · simp at hj; omega
  have dy2 : directOk oy (D ++ [x]) = true := directOk_mono dy fun i hi => by simp [hi]
  have hTopo3 := hTopo2.snoc hy dy2
  have hlt3 : ∀ j ∈ D ++ [x] ++ [y], j < ops.size := by
    intro j hj
    rcases List.mem_append.1 hj with hj | hj
    · exact hlt2 j hj
    · simp at hj; omega
  have hstrong : ∀ {D' E' : List Nat} {t' : VT} {h' : H} {S : Nat → Prop} {β : Ren} {a : Act} {w : World}, Inv P ops n B0 β0 h0 w0 D' E' ids false t' h' S β a w → (∀ i ∈ D', readB (ins P ops) i = true → S i) → Inv P ops n B0 β0 h0 w0 D' E' ids true t' h' S β a w := by
    intro D' E' t' h' S β a w hI hS
    refine ⟨hI.sub, hI.effs, hI.effE, hI.down, hI.gone, hI.size, hI.defers, hI.tmps, fun i hi hn => ?_, hI.unn, hI.idr, hI.idi⟩
    obtain ⟨z, z1, z2, z3⟩ := hI.pend i hi hn
    refine ⟨z, z1, z2, ?_⟩
    rcases z3 with z3 | ⟨w1, v, w2, w3⟩
    · exact .inl z3
    · refine .inr ⟨w1, v, w2, ?_⟩
      rcases w3 with w3 | ⟨c1, _⟩ | w3
      · exact .inl w3
      · exact absurd (hS i hi (by simp [readB, z1, c1])) hn
      · exact .inr (.inr w3)
  refine hI.effect hF hT hTopo.closed hx hxD ex hlt hpre s1 fun β' a' w' hI' => ?_
  have hreadS : ∀ i ∈ D, readB (ins P ops) i = true → up listed i := fun i hi hr =>
    Reach.mem hI.down (ahead_reach (hrd i hi hr)) fun o' e' ho' he' hb => by rw [hx] at ho'; cases ho'; exact hpre e' he' hb
  have hnr : ∀ {i : Nat}, effB ops (ins P ops) i = true → readB (ins P ops) i = true → ∃ o, ops[i]? = some o ∧ ∃ v, o.op = .assign v := by
    intro i he hr
    unfold readB at hr
    split at hr
    · rename_i q hq
      split at hr
      · rename_i hc
        obtain ⟨o, ho, _⟩ := ins_get hq
        refine ⟨o, ho, ?_⟩
        unfold effB at he
        rw [hq, ho] at he
        simp only [hc, Bool.or_false] at he
        split at he
        · rename_i v hv; exact ⟨v, hv⟩
        · cases he
      · cases hr
    · cases hr
  have hnorx : ∀ {i : Nat}, effB ops (ins P ops) i = true → readB (ins P ops) i = false := by
    intro i he
    cases hr : readB (ins P ops) i with
    | false => rfl
    | true =>
      obtain ⟨o, ho, v, hv⟩ := hnr he hr
      unfold readB at hr
      rw [ins_of ho] at hr
      simp only [] at hr
      have hcls : (compInstr P ops o).op.cls = .read := by
        split at hr
        · assumption
        · cases hr
      unfold compInstr at hcls
      rw [hv] at hcls
      split at hcls
      · cases hcls
      · split at hcls <;> cases hcls
  have hI2 := hstrong hI' (by
    intro i hi hr
    rcases List.mem_append.1 hi with hi | hi
    · exact .inl (hreadS i hi hr)
    · simp at hi; subst hi; exact .inr rfl)
  rw [← up_set (by omega)] at hI2
  refine turn hF hT hTopo2 hlt2 ?_ ?_ ?_ fuel _ hI2 (by simpa using hsize) hcount
  · intro listed β a w hI hall'
    have := hI.sub y (hall' y hylt)
    simp only [List.mem_append, List.mem_singleton] at this
    rcases this with h | h
    · exact absurd h hyD
    · exact absurd h.symm hxy
  · intro S hS hsub ⟨i, hi, hn⟩
    refine ⟨y, oy, hy, fun hh => ?_, dy2⟩
    have := hsub y hh
    simp only [List.mem_append, List.mem_singleton] at this
    rcases this with h | h
    · exact hyD h
    · exact hxy h.symm
  · intro fuel listed β a w i o hI hsize hcount ho hiD hpre
    have hilt : i < ops.size := (Array.getElem?_eq_some_iff.1 ho).1
    have hiy : i = y := by
      rcases hall i hilt with h | h | h
      · exact absurd (by simp [h]) hiD
      · exact absurd (by simp [h]) hiD
      · exact h
    subst hiy
    rw [hy] at ho; cases ho
    refine hI.effect hF hT hTopo2.closed hy hiD ey hlt2 hpre s2 fun β' a' w' hI' => ?_
    have hI3 := hstrong hI' (by
      intro j hj hr
      rcases List.mem_append.1 hj with hj | hj
      · rcases List.mem_append.1 hj with hj' | hj'
        · refine .inl ?_
          refine Reach.mem hI.down (ahead_reach (hrd j hj' hr)) fun o' e' ho' he' hb => ?_
          exact hI.down x o' e' (hI.effs x (by simp) ex) ho' he' hb
        · simp at hj'; subst hj'; rw [hnorx ex] at hr; cases hr
      · simp at hj; subst hj; exact .inr rfl)
    rw [← up_set (by omega)] at hI3
    have hall3 : ∀ j, j < ops.size → j ∈ D ++ [x] ++ [i] := by
      intro j hj
      rcases hall j hj with h | h | h <;> simp [h]
    refine turn hF hT hTopo3 hlt3 ?_ ?_ ?_ fuel _ hI3 (by simpa using hsize) hcount
    · intro listed β a w hI hall'
      refine hQ β a w hI.gone ⟨hI.size, fun d => ?_, hI.defers⟩
      rcases hI.tmps d with ⟨j, z, hj, hS, _⟩ | hr
      · exact absurd (hall' j (hlt3 j hj)) hS
      · exact hr
    · intro S hS hsub ⟨j, hj, hn⟩
      exact absurd (hS j (hall3 j hj)) hn
    · intro fuel listed β a w j o hI _ _ ho hjD
      exact absurd (hall3 j (Array.getElem?_eq_some_iff.1 ho).1) hjD

theorem stages_run (hF : Good P F) (hT : tempsOk (order ops) ops (ins P ops) = true) {B0 : Nat} {β0 : Ren} {h0 h' : H} {w0 : World} {t' : VT} {Q : Exit → Act → World → Prop}
    (hQ : ∀ β' a' w', Go1 B0 β0 h0 w0 β' h' w' → TRel β' n t' a' → Q .normal a' w') :
    ∀ (l : List Stage) {D E : List Nat} {ids : Nat → Option Nat} {t : VT} {h : H} {β : Ren} {a : Act} {w : World} (fuel : Nat) (listed : Array Bool),
      stagesOk true (order ops) ops (ins P ops) D E l = true → Topo ops D → (∀ j ∈ D, j < ops.size) → Inv P ops n B0 β0 h0 w0 D E ids false t h (up listed) β a w →
      stagesA F n (ins P ops) l t h = some (t', h') → listed.size = ops.size → listed.count false = fuel → wpAny P .any ops Q fuel listed a w := by
  intro l
  induction l with
  | nil => intro D E ids t h β a w fuel listed hok; cases hok
  | cons s l ih =>
    intro D E ids t h β a w fuel listed hok hTopo hlt hI hst hsize hcount
    simp only [stagesOk, Bool.and_eq_true] at hok
    obtain ⟨⟨o1, o2⟩, o3⟩ := hok
    simp only [stagesA] at hst
    split at hst
    case h_2 => cases hst
    rename_i t1 h1 hrun
    split at hst
    case isFalse => cases hst
    rename_i hag
    obtain ⟨ids', hI1, hlt1⟩ := hI.group hT hlt hTopo.closed o1 hrun hag o2
    have hTopo1 := group_topo s.group hTopo o1
    clear hI hrun
    cases hs : s.eff with
    | none =>
      rw [hs] at hst o3
      simp only [Bool.and_eq_true, List.isEmpty_iff] at o3
      obtain ⟨rfl, o4⟩ := o3
      simp only [stagesA, Option.some.injEq, Prod.mk.injEq] at hst
      obtain ⟨rfl, rfl⟩ := hst
      have hallD : ∀ i, i < ops.size → i ∈ D ++ s.group := fun i hi => by
        have := List.all_eq_true.1 o4 i (List.mem_range.2 hi)
        simpa using this
      refine turn hF hT hTopo1 hlt1 ?_ ?_ ?_ fuel listed hI1 hsize hcount
      · intro listed β a w hI hall
        refine hQ β a w hI.gone ⟨hI.size, fun d => ?_, hI.defers⟩
        rcases hI.tmps d with ⟨i, x, hi, hS, _⟩ | hr
        · exact absurd (hall i (hlt1 i hi)) hS
        · exact hr
      · intro S hS hsub ⟨j, hj, hn⟩
        exact absurd (hS j (hallD j hj)) hn
      · intro fuel listed β a w j o hI _ _ ho hjD
        exact absurd (hallD j (Array.getElem?_eq_some_iff.1 ho).1) hjD
    | some e =>
      rw [hs] at hst o3
      simp only [Bool.and_eq_true, Bool.not_eq_true'] at o3
      obtain ⟨⟨⟨⟨a1, a2⟩, a3⟩, a4⟩, a5⟩ := o3
      have heD : e ∉ D ++ s.group := by rw [List.contains_eq_mem] at a3; simpa using a3
      cases ho : ops[e]? with
      | none => rw [ho] at a4; cases a4
      | some oe =>
        rw [ho] at a4
        simp only [ins_of ho] at hst
        split at hst
        case h_2 => cases hst
        rename_i t2 h2 hstep
        have helt : e < ops.size := (Array.getElem?_eq_some_iff.1 ho).1
        cases hp : s.pair with
        | none =>
          rw [hp] at hst a5
          simp only [] at hst a5
          refine turn hF hT hTopo1 hlt1 ?_ ?_ ?_ fuel listed hI1 hsize hcount
          · intro listed β a w hI hall
            exact absurd (hI.sub e (hall e helt)) heD
          · intro S hS hsub _
            exact ⟨e, oe, ho, fun hh => heD (hsub e hh), a4⟩
          · intro fuel listed β a w i o hI hsize hcnt hoi hiD m3
            have hilt : i < ops.size := (Array.getElem?_eq_some_iff.1 hoi).1
            by_cases he : i = e
            · subst he
              rw [ho] at hoi; cases hoi
              refine hI.effect hF hT hTopo1.closed ho hiD a1 hlt1 m3 hstep fun β' a' w' hI' => ?_
              rw [← up_set (by omega)] at hI'
              refine ih fuel _ a5 (hTopo1.snoc ho a4) ?_ hI' hst (by simpa using hsize) hcnt
              intro j hj
              rcases List.mem_append.1 hj with hj | hj
              · exact hlt1 j hj
              · simp at hj; omega
            · exfalso
              have hah := stages_later l a5 i hilt (by simp only [List.mem_append, List.mem_singleton, not_or]; exact ⟨by simpa using hiD, he⟩) e (by simp)
              have := Reach.mem hI.down (ahead_reach hah) fun o' e' ho' he' hb => by rw [hoi] at ho'; cases ho'; exact m3 e' he' hb
              exact heD (hI.sub e this)
        | some e' =>
          rw [hp] at hst a5
          simp only [Bool.and_eq_true, Bool.not_eq_true', Bool.true_and] at hst a5
          obtain ⟨⟨⟨⟨⟨⟨⟨⟨b1, b2⟩, b3⟩, b4⟩, b5⟩, b6⟩, b7⟩, b8⟩, b9⟩ := a5
          have heD' : e' ∉ D ++ s.group := by rw [List.contains_eq_mem] at b3; simpa using b3
          have hne : e ≠ e' := by simpa using b7
          cases ho' : ops[e']? with
          | none => rw [ho'] at b4; cases b4
          | some oe' =>
            rw [ho'] at b4
            simp only [ins_of ho'] at hst
            split at hst
            case isFalse => cases hst
            rename_i hap
            have helt' : e' < ops.size := (Array.getElem?_eq_some_iff.1 ho').1
            obtain ⟨k1, x1, y1, hsb⟩ := storeB_spec b5
            obtain ⟨k2, x2, y2, hsb'⟩ := storeB_spec b6
            rw [ins_of ho] at hsb
            rw [ins_of ho'] at hsb'
            simp only [Option.some.injEq] at hsb hsb'
            have hstep0 := hstep
            have hst0 := hst
            rw [hsb] at hstep hap
            rw [hsb'] at hst hap
            obtain ⟨rfl, rfl, g2, g3, w1, w2, w3, w4⟩ := stores_swap hap hstep hst
            rw [← hsb'] at w1
            rw [← hsb] at w2
            have hallD : ∀ i, i < ops.size → i ∈ D ++ s.group ∨ i = e ∨ i = e' := fun i hi => by
              have := List.all_eq_true.1 b9 i (List.mem_range.2 hi)
              simp only [Bool.or_eq_true, List.contains_eq_mem, decide_eq_true_eq, beq_iff_eq] at this
              rcases this with (h | h) | h
              · exact .inl h
              · exact .inr (.inl h)
              · exact .inr (.inr h)
            have hrd : ∀ i ∈ D ++ s.group, readB (ins P ops) i = true → ahead (order ops) i e = true ∧ ahead (order ops) i e' = true := fun i hi hr => by
              have := List.all_eq_true.1 b8 i hi
              simpa [hr] using this
            refine turn hF hT hTopo1 hlt1 ?_ ?_ ?_ fuel listed hI1 hsize hcount
            · intro listed β a w hI hall
              exact absurd (hI.sub e (hall e helt)) heD
            · intro S hS hsub _
              exact ⟨e, oe, ho, fun hh => heD (hsub e hh), a4⟩
            · intro fuel listed β a w i o hI hsize hcnt hoi hiD m3
              have hilt : i < ops.size := (Array.getElem?_eq_some_iff.1 hoi).1
              rcases hallD i hilt with h | rfl | rfl
              · exact absurd h hiD
              · rw [ho] at hoi; cases hoi
                exact pair_end hF hT hTopo1 hlt1 hQ ho ho' heD heD' hne a1 b1 a4 b4 hallD (fun i hi hr => (hrd i hi hr).1) hstep0 hst0 hI hsize hcnt m3
              · rw [ho'] at hoi; cases hoi
                exact pair_end hF hT hTopo1 hlt1 (fun β' a' w' g tr => hQ β' a' w' (g.congr w3 w4) tr) ho' ho heD' heD (Ne.symm hne) b1 a1 b4 a4 (fun i hi => (hallD i hi).imp_right Or.symm) (fun i hi hr => (hrd i hi hr).2) w1 w2 hI hsize hcnt m3

theorem draw_right : DrawRight P := by
  intro F hF B0 β h h' w n id t t' a ops l Q hr ht hok hm hst hQ
  refine wp_region_any hm ?_
  unfold drawOk at hok
  simp only [Bool.and_eq_true] at hok
  have hg : Go1 B0 β h w β h w.drew := Go1.drew hr
  refine stages_run hF hok.1 hQ l (D := []) (E := []) (ids := fun _ => none) (β := β) ops.size (Array.replicate ops.size false) hok.2 ?_ (fun j hj => by simp at hj) ?_ hst (by simp) (by simp)
  · intro D1 i D2 he
    simp at he
  · have hup : ∀ i, ¬ up (Array.replicate ops.size false) i := by
      intro i hi
      unfold up at hi
      simp only [Array.getD_eq_getD_getElem?, Array.getElem?_replicate] at hi
      split at hi <;> simp at hi
    exact ⟨fun i hi => absurd hi (hup i), fun i hi => by simp at hi, fun i hi => by simp at hi, fun i _ _ hi => absurd hi (hup i), hg, ht.size, ht.defers,
      fun d => .inr (ht.rel d), fun i hi => by simp at hi, fun i hi => by simp at hi, (fun _ _ hh => by cases hh), (fun _ _ _ hh => by cases hh)⟩

end
end Go.Abs
