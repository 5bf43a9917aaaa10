import Derived.Test.YtajobphlclafdaaGreatDoorEngO
import Derived.Test.YtajobphlclafdaaGreatDoorEngL
set_option linter.unusedVariables false
set_option linter.unusedSimpArgs false
/-! Regions that draw their order: whichever order comes up, the end is the one of the stages. -/
namespace Go.Abs
open Go.RowKit (Below)
section
variable {P : Program} {ops : Array Oper} {n : Nat} {F : FF}

/-- The operations as they are taken. -/
def ins (P : Program) (ops : Array Oper) : List AInstr := ops.toList.map (compInstr P ops)

theorem ins_get {i : Nat} {x : AInstr} (h : (ins P ops)[i]? = some x) : ∃ o, ops[i]? = some o ∧ x = compInstr P ops o := by
  unfold ins at h
  rw [List.getElem?_map, Array.getElem?_toList] at h
  cases ho : ops[i]? with
  | none => rw [ho] at h; cases h
  | some o => rw [ho] at h; cases h; exact ⟨o, rfl, rfl⟩
theorem ins_of {i : Nat} {o : Oper} (h : ops[i]? = some o) : (ins P ops)[i]? = some (compInstr P ops o) := by
  unfold ins; rw [List.getElem?_map, Array.getElem?_toList, h]; rfl

theorem ahead_reach {i j : Nat} (h : ahead (order ops) j i = true) : Reach ops j i := order_reach ops i j h

theorem mem_tmpsOf {t : Nat} : ∀ {l : List Operand}, Operand.tmp t ∈ l → t ∈ tmpsOf l
  | x :: l, h => by
    simp only [List.mem_cons] at h
    rcases h with rfl | h
    · simp [tmpsOf]
    · cases x <;> simp [tmpsOf, mem_tmpsOf h]

theorem reads_guard {x : AInstr} {d : Nat} {b : Bool} (h : x.guard = some (d, b)) : d ∈ x.reads := by simp [AInstr.reads, h]
theorem reads_op {x : AInstr} {t : Nat} (h : Operand.tmp t ∈ x.op.opnds) : t ∈ x.reads := by
  unfold AInstr.reads
  exact List.mem_append_right _ (mem_tmpsOf h)

theorem rho_congr {t t' : VT} {x : Operand} (h : ∀ i, x = .tmp i → t.get i = t'.get i) : rho t x = rho t' x := by
  cases x with
  | tmp i => exact h i rfl
  | const v => rfl
  | global g => rfl
  | func f => rfl

theorem opA_temps {t t' : VT} {h : H} {x : AInstr} (hx : ∀ i ∈ x.reads, t.get i = t'.get i) : opA (rho t) h x.op = opA (rho t') h x.op :=
  opA_congr _ fun y hy => rho_congr fun i hi => hx i (reads_op (hi ▸ hy))
theorem wanted_temps {t t' : VT} {x : AInstr} (hx : ∀ i ∈ x.reads, t.get i = t'.get i) : wantedA t x.guard = wantedA t' x.guard := by
  cases hg : x.guard with
  | none => rfl
  | some q => obtain ⟨d, b⟩ := q; simp only [wantedA]; rw [hx d (reads_guard hg)]

theorem tempsOk_spec {A : List AInstr} {ms : List Nat} (h : tempsOk ms ops A = true) {i j t : Nat} {x y : AInstr} (hi : i < ops.size) (hj : j < ops.size) (hx : A[i]? = some x) (hy : A[j]? = some y) (hd : x.dst = some t) :
    (i = j → t ∉ y.reads) ∧ (i ≠ j → y.dst ≠ some t ∧ (t ∈ y.reads → ahead ms i j = true ∨ ahead ms j i = true ∧ effB ops A i = true)) := by
  unfold tempsOk at h
  rw [List.all_eq_true] at h
  have h1 := h i (List.mem_range.2 hi)
  rw [hx] at h1
  simp only [hd] at h1
  rw [List.all_eq_true] at h1
  have h2 := h1 j (List.mem_range.2 hj)
  rw [hy] at h2
  simp only [] at h2
  constructor
  · intro e
    rw [if_pos e] at h2
    simpa using h2
  · intro e
    rw [if_neg e] at h2
    simp only [Bool.and_eq_true, Bool.or_eq_true, Bool.not_eq_true'] at h2
    obtain ⟨h3, h4⟩ := h2
    refine ⟨by simpa using h3, fun ht => ?_⟩
    rcases h4 with (h4 | h4) | h4
    · exact absurd ht (by simpa using h4)
    · exact .inl h4
    · exact .inr h4

/-- Of what is in the list, what must come ahead is in it. -/
def Closed (ops : Array Oper) (D : List Nat) : Prop := ∀ i o e, i ∈ D → ops[i]? = some o → e ∈ o.after → Region.binds .any e = true → e.on ∈ D

theorem directOk_spec {o : Oper} {D : List Nat} (h : directOk o D = true) : ∀ e ∈ o.after, Region.binds .any e = true → e.on ∈ D := by
  intro e he hb
  unfold directOk at h
  have := List.all_eq_true.1 h e (by simpa using he)
  rw [hb] at this
  simpa using this

theorem Closed.cons {D : List Nat} (hD : Closed ops D) {i : Nat} {o : Oper} (ho : ops[i]? = some o) (hd : directOk o D = true) : Closed ops (D ++ [i]) := by
  intro j o' e hj ho' he hb
  simp only [List.mem_append, List.mem_singleton] at hj ⊢
  rcases hj with hj | rfl
  · exact .inl (hD j o' e hj ho' he hb)
  · rw [ho] at ho'; cases ho'; exact .inl (directOk_spec hd e he hb)

theorem Closed.reach {D : List Nat} (hD : Closed ops D) {i j : Nat} {o : Oper} (ho : ops[i]? = some o) (hd : directOk o D = true) (h : Reach ops j i) : j ∈ D :=
  Reach.mem (S := (· ∈ D)) (fun i o e hi ho he hb => hD i o e hi ho he hb) h fun o' e ho' he hb => by rw [ho] at ho'; cases ho'; exact directOk_spec hd e he hb

/-- What is known of an operation that has had its turn in the stages, but may not have come up. ids: under which name a block was made. rd: what was read is still what is there. -/
def Told (P : Program) (ops : Array Oper) (n : Nat) (t : VT) (h : H) (ids : Nat → Option Nat) (rd : Bool) (i : Nat) : Prop :=
  ∃ x, (ins P ops)[i]? = some x ∧ effB ops (ins P ops) i = false ∧
    ((wantedA t x.guard = some false ∧ ∀ d, x.dst = some d → d < n ∧ t.get d = skipv) ∨
     (wantedA t x.guard = some true ∧ ∃ v, (∀ d, x.dst = some d → d < n ∧ t.get d = v) ∧
        ((x.op.cls = .pure ∧ ∀ g, opA (rho t) g x.op = some (v, g)) ∨ (x.op.cls = .read ∧ (rd = true → opA (rho t) h x.op = some (v, h))) ∨
         (x.op.cls = .alloc ∧ ∃ hc obj, ids i = some hc.next ∧ opA (rho t) hc x.op = some (v, hc.new obj) ∧ h.get hc.next = some obj))))

theorem effB_cls {i : Nat} {x : AInstr} (hx : (ins P ops)[i]? = some x) (h : effB ops (ins P ops) i = false) : x.op.cls = .pure ∨ x.op.cls = .read ∨ x.op.cls = .alloc := by
  unfold effB at h
  rw [hx] at h
  simp only [Bool.or_eq_false_iff] at h
  obtain ⟨_, h⟩ := h
  cases hc : x.op.cls <;> simp_all

/-- The operations between two effects. -/
theorem group_run (hT : tempsOk (order ops) ops (ins P ops) = true) {E : List Nat} : ∀ (g : List Nat) {D : List Nat} {t t' : VT} {h h' : H}, Closed ops D → groupOk (order ops) ops (ins P ops) E D g = true →
    opsA F n (pick (ins P ops) g) t h = some (t', h') →
    Closed ops (D ++ g) ∧ h.next ≤ h'.next ∧ (∀ b, b < h.next → h'.get b = h.get b) ∧ (∀ B0 β w, HRel B0 β h w → HRel B0 β h' w) ∧
    (∀ d, (∀ i x, i ∈ g → (ins P ops)[i]? = some x → x.dst ≠ some d) → t'.get d = t.get d) ∧ (∀ i ∈ g, i ∉ D ∧ i < ops.size ∧ effB ops (ins P ops) i = false ∧ ∀ e ∈ E, ahead (order ops) e i = true) ∧
    ∃ ids : Nat → Option Nat, (∀ i ∈ g, Told P ops n t' h' ids false i) ∧ (∀ i b, ids i = some b → i ∈ g ∧ h.next ≤ b ∧ b < h'.next) ∧ (∀ i j b, ids i = some b → ids j = some b → i = j) := by
  intro g
  induction g with
  | nil =>
    intro D t t' h h' hD hg hr
    cases hr
    exact ⟨by simpa using hD, Nat.le_refl _, fun _ _ => rfl, fun _ _ _ h => h, fun _ _ => rfl, fun i hi => by simp at hi, fun _ => none, (fun i hi => by simp at hi), (fun _ _ h => by cases h), (fun _ _ _ h => by cases h)⟩
  | cons i g ih =>
    intro D t t' h h' hD hg hr
    simp only [groupOk, Bool.and_eq_true, Bool.not_eq_true'] at hg
    obtain ⟨⟨⟨⟨g1, g2⟩, g3⟩, g4⟩, g5⟩ := hg
    cases ho : ops[i]? with
    | none => rw [ho] at g3; cases g3
    | some o =>
      rw [ho] at g3
      simp only [] at g3
      have hx := ins_of (P := P) ho
      have hilt : i < ops.size := (Array.getElem?_eq_some_iff.1 ho).1
      have hiD : i ∉ D := by simpa using g2
      simp only [pick, hx, opsA] at hr
      split at hr
      case h_2 => cases hr
      rename_i t1 h1 hs
      obtain ⟨k1, k2, k3, k4, k5, k6, ids, k7, k8, k9⟩ := ih (hD.cons ho g3) g5 hr
      have hcls := effB_cls hx g1
      generalize hxe : compInstr P ops o = x at hs hx hcls
      -- what the step did
      have hstep : h.next ≤ h1.next ∧ (∀ b, b < h.next → h1.get b = h.get b) ∧ (∀ B0 β w, HRel B0 β h w → HRel B0 β h1 w) ∧ (∀ d, x.dst ≠ some d → t1.get d = t.get d) ∧
          ((wantedA t x.guard = some false ∧ ∀ d, x.dst = some d → d < n ∧ t1.get d = skipv) ∨
           (wantedA t x.guard = some true ∧ ∃ v, (∀ d, x.dst = some d → d < n ∧ t1.get d = v) ∧
            ((x.op.cls = .pure ∧ ∀ g, opA (rho t) g x.op = some (v, g)) ∨ x.op.cls = .read ∨
             (x.op.cls = .alloc ∧ ∃ obj, opA (rho t) h x.op = some (v, h.new obj) ∧ h1 = h.new obj)))) := by
        unfold stepA at hs
        have hput : ∀ {v : Value} {h2 : H}, (match putA n t x.dst v with | some t' => some (t', h2) | none => none) = some (t1, h1) → h1 = h2 ∧ (∀ d, x.dst ≠ some d → t1.get d = t.get d) ∧ ∀ d, x.dst = some d → d < n ∧ t1.get d = v := by
          intro v h2 hp
          unfold putA at hp
          cases hd : x.dst with
          | none => rw [hd] at hp; cases hp; exact ⟨rfl, fun _ _ => rfl, fun d hd' => by cases hd'⟩
          | some d =>
            rw [hd] at hp
            simp only [] at hp
            split at hp
            · rename_i t2 ht2
              cases hp
              split at ht2
              · rename_i hlt
                cases ht2
                refine ⟨rfl, fun d' hd' => ?_, fun d' hd' => ?_⟩
                · rw [VT.get_set, if_neg (by rintro rfl; exact hd' rfl)]
                · cases hd'; exact ⟨hlt, by rw [VT.get_set, if_pos rfl]⟩
              · cases ht2
            · cases hp
        split at hs
        · rename_i hw
          split at hs
          · rename_i v h2 he
            obtain ⟨rfl, q1, q2⟩ := hput hs
            have heop : opA (rho t) h x.op = some (v, h1) := by
              unfold evalA at he
              split at he
              · rename_i f args hco; rw [hco] at hcls; rcases hcls with hc | hc | hc <;> cases hc
              · exact he
            rcases hcls with hc | hc | hc
            · obtain ⟨rfl, hall⟩ := pure_any hc heop
              exact ⟨Nat.le_refl _, fun _ _ => rfl, fun _ _ _ h => h, q1, .inr ⟨hw, v, q2, .inl ⟨hc, hall⟩⟩⟩
            · obtain rfl := read_same hc heop
              exact ⟨Nat.le_refl _, fun _ _ => rfl, fun _ _ _ h => h, q1, .inr ⟨hw, v, q2, .inr (.inl hc)⟩⟩
            · obtain ⟨obj, rfl⟩ := alloc_new hc heop
              exact ⟨by simp, fun b hb => by rw [H.get_new, if_neg (by omega)], fun _ _ _ hh => hh.name obj, q1, .inr ⟨hw, v, q2, .inr (.inr ⟨hc, obj, heop, rfl⟩)⟩⟩
          · cases hs
        · rename_i hw
          obtain ⟨rfl, q1, q2⟩ := hput hs
          exact ⟨Nat.le_refl _, fun _ _ => rfl, fun _ _ _ h => h, q1, .inl ⟨hw, q2⟩⟩
        · cases hs
      obtain ⟨s1, s2, s3, s4, s5⟩ := hstep
      have hne : ∀ j ∈ g, j ≠ i := by
        rintro j hj rfl
        exact (k6 j hj).1 (by simp)
      -- nobody behind writes what it reads, or where it writes
      have hlate : ∀ d, (d ∈ x.reads ∨ x.dst = some d) → t'.get d = t1.get d := by
        intro d hd
        refine k5 d ?_
        intro j' y hj' hy hyd
        obtain ⟨m1, m2, m3, m4⟩ := k6 j' hj'
        obtain ⟨_, sp⟩ := tempsOk_spec hT m2 hilt hy hx hyd
        obtain ⟨sp1, sp2⟩ := sp (hne j' hj')
        rcases hd with hd | hd
        · rcases sp2 hd with ha | ⟨_, ha⟩
          · exact m1 (List.mem_append_left _ (hD.reach ho g3 (ahead_reach ha)))
          · rw [m3] at ha; cases ha
        · exact sp1 hd
      have hself : ∀ d ∈ x.reads, t1.get d = t.get d := by
        intro d hd
        refine s4 d ?_
        intro hxd
        exact (tempsOk_spec hT hilt hilt hx hx hxd).1 rfl hd
      have hread : ∀ d ∈ x.reads, t.get d = t'.get d := fun d hd => by rw [hlate d (.inl hd), hself d hd]
      have hothers : ∀ ids' : Nat → Option Nat, (∀ j, j ≠ i → ids' j = ids j) → ∀ j ∈ g, Told P ops n t' h' ids' false j := by
        intro ids' hids j hj
        obtain ⟨y, y1, y2, y3⟩ := k7 j hj
        refine ⟨y, y1, y2, ?_⟩
        rcases y3 with y3 | ⟨w1, v, w2, w3⟩
        · exact .inl y3
        · refine .inr ⟨w1, v, w2, ?_⟩
          rcases w3 with w3 | w3 | ⟨c1, hc, obj, c2, c3⟩
          · exact .inl w3
          · exact .inr (.inl w3)
          · exact .inr (.inr ⟨c1, hc, obj, by rw [hids j (hne j hj)]; exact c2, c3⟩)
      refine ⟨by simpa using k1, Nat.le_trans s1 k2, fun b hb => (k3 b (by omega)).trans (s2 b hb), fun B0 β w hh => k4 _ _ _ (s3 _ _ _ hh), ?_, ?_, ?_⟩
      · intro d hd
        rw [k5 d fun j y hj hy => hd j y (by simp [hj]) hy]
        exact s4 d (hd i x (by simp) hx)
      · intro j hj
        simp only [List.mem_cons] at hj
        rcases hj with rfl | hj
        · exact ⟨hiD, hilt, g1, fun e he => List.all_eq_true.1 g4 e he⟩
        · obtain ⟨m1, m2, m3, m4⟩ := k6 j hj
          exact ⟨fun h => m1 (by simp [h]), m2, m3, m4⟩
      · have hsame : Told P ops n t' h' ids false i → ∃ ids : Nat → Option Nat, (∀ j ∈ i :: g, Told P ops n t' h' ids false j) ∧ (∀ j b, ids j = some b → j ∈ i :: g ∧ h.next ≤ b ∧ b < h'.next) ∧ (∀ i j b, ids i = some b → ids j = some b → i = j) := by
          intro hti
          refine ⟨ids, ?_, fun j b hb => ?_, k9⟩
          · intro j hj
            simp only [List.mem_cons] at hj
            rcases hj with rfl | hj
            · exact hti
            · exact k7 j hj
          · obtain ⟨z1, z2, z3⟩ := k8 j b hb
            exact ⟨by simp [z1], by omega, z3⟩
        rcases s5 with ⟨w1, w2⟩ | ⟨w1, v, w2, c⟩
        · refine hsame ⟨x, hx, g1, .inl ⟨by rw [← wanted_temps hread]; exact w1, fun d hd => ⟨(w2 d hd).1, by rw [hlate d (.inr hd)]; exact (w2 d hd).2⟩⟩⟩
        · rcases c with ⟨c1, c2⟩ | c1 | ⟨c1, obj, c2, c3⟩
          · exact hsame ⟨x, hx, g1, .inr ⟨by rw [← wanted_temps hread]; exact w1, v, fun d hd => ⟨(w2 d hd).1, by rw [hlate d (.inr hd)]; exact (w2 d hd).2⟩, .inl ⟨c1, fun g => by rw [← opA_temps hread]; exact c2 g⟩⟩⟩
          · exact hsame ⟨x, hx, g1, .inr ⟨by rw [← wanted_temps hread]; exact w1, v, fun d hd => ⟨(w2 d hd).1, by rw [hlate d (.inr hd)]; exact (w2 d hd).2⟩, .inr (.inl ⟨c1, fun hh => by cases hh⟩)⟩⟩
          · have hlt1 : h.next < h1.next := by rw [c3]; simp
            have hgets : h'.get h.next = some obj := by rw [k3 h.next hlt1, c3, H.get_new, if_pos rfl]
            refine ⟨fun j => if j = i then some h.next else ids j, ?_, ?_, ?_⟩
            · intro j hj
              simp only [List.mem_cons] at hj
              by_cases e : j = i
              · subst e
                refine ⟨x, hx, g1, .inr ⟨by rw [← wanted_temps hread]; exact w1, v, fun d hd => ⟨(w2 d hd).1, by rw [hlate d (.inr hd)]; exact (w2 d hd).2⟩, .inr (.inr ⟨c1, h, obj, by simp, ?_, hgets⟩)⟩⟩
                rw [← opA_temps hread]; exact c2
              · exact hothers _ (fun j hj => by simp [hj]) j (hj.resolve_left e)
            · intro j b hb
              by_cases e : j = i
              · subst e
                simp only [if_true, Option.some.injEq] at hb
                exact ⟨by simp, by omega, by omega⟩
              · simp only [if_neg e] at hb
                obtain ⟨z1, z2, z3⟩ := k8 j b hb
                exact ⟨by simp [z1], by omega, z3⟩
            · intro j j' b hb hb'
              by_cases e : j = i <;> by_cases e' : j' = i
              · rw [e, e']
              · simp only [if_pos e, if_neg e', Option.some.injEq] at hb hb'
                have := k8 j' b hb'; omega
              · simp only [if_neg e, if_pos e', Option.some.injEq] at hb hb'
                have := k8 j b hb; omega
              · simp only [if_neg e, if_neg e'] at hb hb'
                exact k9 _ _ _ hb hb'

end
end Go.Abs
