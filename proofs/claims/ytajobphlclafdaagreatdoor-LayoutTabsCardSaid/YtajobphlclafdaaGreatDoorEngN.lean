import Derived.Test.YtajobphlclafdaaGreatDoorEngM
set_option linter.unusedVariables false
set_option linter.unusedSimpArgs false
/-! One operation, of which only what it reads is known. -/
namespace Go.Abs
open Go.RowKit (Below)
section
variable {P : Program}

theorem compInstr_dst (ops : Array Oper) (o : Oper) : (compInstr P ops o).dst = o.dst := by unfold compInstr; split <;> (try split) <;> rfl

/-- Is it wanted? -/
theorem want_of {β : Ren} {t : VT} {a : Act} {ops : Array Oper} {o : Oper} {c : Bool} (hg : ∀ d b, (compInstr P ops o).guard = some (d, b) → VRel β (t.get d) (a.tmps.getD d undef))
    (hc : wantedA t (compInstr P ops o).guard = some c) : ((compInstr P ops o).op = .bad ∧ c = true) ∨ (Region.wanted o (yielded ops a.tmps) = c ∧ (compInstr P ops o).op = compOp P o.op) := by
  cases hgd : o.guard with
  | none =>
    simp only [compInstr, hgd] at hc ⊢
    cases hc
    exact .inr ⟨by unfold Region.wanted; rw [hgd], trivial⟩
  | some q =>
    obtain ⟨j, b⟩ := q
    cases hd : (ops[j]?).bind (·.dst) with
    | some d =>
      have hrel := hg d b (by simp only [compInstr, hgd, hd])
      simp only [compInstr, hgd, hd] at hc ⊢
      exact .inr ⟨wanted_rel hrel hgd hd hc, trivial⟩
    | none =>
      simp only [compInstr, hgd, hd] at hc ⊢
      cases hc
      exact .inl ⟨trivial, rfl⟩

open Classical in
/-- An operation that is wanted. -/
theorem exec_ok {F : FF} (hF : Good P F) {B0 : Nat} {β : Ren} {h h' : H} {w : World} {t : VT} {a : Act} {ops : Array Oper} {o : Oper} {i : Nat} {v : Value} {K : Act → World → Prop} {Q : Exit → Act → World → Prop}
    (hr : HRel B0 β h w) (hi : ops[i]? = some o) (hg : ∀ d b, (compInstr P ops o).guard = some (d, b) → VRel β (t.get d) (a.tmps.getD d undef))
    (hop : ∀ x ∈ (compInstr P ops o).op.opnds, VRel β (rho t x) (a.eval x)) (hw : wantedA t (compInstr P ops o).guard = some true) (he : evalA F t h (compInstr P ops o).op = some (v, h'))
    (hK : ∀ β' v' w', Go1 B0 β h w β' h' w' → VRel β' v v' → K (a.put o.dst v') w') : wpOp P ops Q i K a w := by
  rcases want_of hg hw with ⟨hbad, _⟩ | ⟨hwt, hopc⟩
  · rw [hbad] at he; cases he
  unfold wpOp
  simp only [hi]
  rw [hwt, if_pos rfl]
  left
  rw [hopc] at he hop
  unfold Oper.wp
  unfold evalA at he
  split at he
  · rename_i f args hco
    split at he
    · rename_i g fs cs hf
      obtain ⟨ty, hoc⟩ := compOp_call hco
      rw [hco] at hop
      simp only [AOp.opnds] at hop
      have hfr := hop f (by simp)
      rw [hf] at hfr
      obtain ⟨fs', cs', e1, e2, e3⟩ := hfr.of_func
      have hm : ∀ l : List Operand, (∀ x ∈ l, VRel β (rho t x) (a.eval x)) → LRel β (l.map (rho t)) (l.map a.eval) := by
        intro l hl
        induction l with
        | nil => exact .nil
        | cons y l ih => exact .cons (hl y (by simp)) (ih fun x hx => hl x (by simp [hx]))
      have hargs : LRel β (fs.toList ++ args.map (rho t) ++ cs.toList) (fs'.toList ++ args.map a.eval ++ cs'.toList) :=
        (e2.append (hm args fun x hx => hop x (by simp [hx]))).append e3
      have hex : execOp a.eval o = callFunc g (fs'.toList ++ args.map a.eval ++ cs'.toList).toArray := by
        have he2 : (fs'.toList ++ args.map a.eval ++ cs'.toList).toArray = fs' ++ (args.map a.eval).toArray ++ cs' := by apply Array.ext'; simp
        rw [he2]
        simp [execOp, hoc, resolve, e1, Deferred.ofValue, invoke]
      rw [hex]
      rcases hF g _ h v h' he B0 β w _ hr hargs with ⟨c1, c2⟩ | ⟨v', w', β', c1, c2, c3⟩
      · rw [c1, Oper.upon_enter]
        refine c2.mono ?_
        rintro e w' ⟨v', β', rfl, hv, hg⟩
        exact hK _ _ _ hg hv
      · rw [c1, Oper.upon_value]
        exact hK _ _ _ c3 c2
    · cases he
  · rename_i hnc
    let ρ1 : Operand → Value := fun x => if x ∈ (compOp P o.op).opnds then rho t x else undef
    have hρ1 : ∀ x, VRel β (ρ1 x) (a.eval x) := by
      intro x
      show VRel β (if x ∈ (compOp P o.op).opnds then rho t x else undef) (a.eval x)
      split
      · exact hop x (by assumption)
      · exact .undef _
    have he' : opA ρ1 h (compOp P o.op) = some (v, h') := by
      rw [← he]
      refine opA_congr _ fun x hx => ?_
      show (if x ∈ (compOp P o.op).opnds then rho t x else undef) = _
      rw [if_pos hx]
    obtain ⟨r, w', β', c1, c2, c3⟩ := sim_op hr hρ1 o he'
    rw [c1]
    rcases c2 with ⟨rfl, rfl⟩ | ⟨v', rfl, c2⟩
    · rw [Oper.upon_skip]; exact hK _ _ _ c3 (.undef _)
    · rw [Oper.upon_value]; exact hK _ _ _ c3 c2

/-- An operation that is passed by. -/
theorem exec_skip {β : Ren} {w : World} {t : VT} {a : Act} {ops : Array Oper} {o : Oper} {i : Nat} {K : Act → World → Prop} {Q : Exit → Act → World → Prop}
    (hi : ops[i]? = some o) (hg : ∀ d b, (compInstr P ops o).guard = some (d, b) → VRel β (t.get d) (a.tmps.getD d undef)) (hw : wantedA t (compInstr P ops o).guard = some false)
    (hK : K (a.put o.dst undef) w) : wpOp P ops Q i K a w := by
  rcases want_of hg hw with ⟨_, hbad⟩ | ⟨hwt, _⟩
  · cases hbad
  unfold wpOp
  simp only [hi]
  rw [hwt]
  simpa using hK

/-! ### making a block, whenever -/

/-- What an operation that makes a block gives, under whatever name. -/
theorem alloc_new {ρ : Operand → Value} {h h' : H} {o : AOp} {v : Value} (hc : o.cls = .alloc) (hv : opA ρ h o = some (v, h')) : ∃ obj, h' = h.new obj := by
  cases o <;> first | (cases hc; done) | skip
  all_goals simp only [opA] at hv
  case alloc e zs => cases hv; exact ⟨_, rfl⟩
  case box e x =>
    split at hv
    · cases hv; exact ⟨_, rfl⟩
    · cases hv
  case buildSl e a b zs ps =>
    unfold buildSlA at hv
    split at hv
    · split at hv
      · cases hv; exact ⟨_, rfl⟩
      · cases hv
    · cases hv
  case rangeStr x =>
    unfold rangeStr at hv
    split at hv
    · cases hv; exact ⟨_, rfl⟩
    · cases hv
  case makeSl e a b zs l c =>
    unfold makeSlA at hv
    split at hv
    · split at hv
      · cases hv; exact ⟨_, rfl⟩
      · cases hv
    · cases hv

/-- The heap whose next block has a given number. -/
theorem alloc_any {ρ : Operand → Value} {h : H} {o : AOp} {v : Value} {obj : AObj} (hc : o.cls = .alloc) (hv : opA ρ h o = some (v, h.new obj)) :
    ∃ mk : Nat → Value, v = mk h.next ∧ (∀ g : H, opA ρ g o = some (mk g.next, g.new obj)) ∧ (∀ {β : Ren} {b : Nat} {x : Value}, VRel β (mk b) x → ∃ p, β b = some p) ∧
      ∀ {β β' : Ren} {b b' : Nat} {x : Value} {p : Place}, VRel β (mk b) x → β b = some p → β' b' = some p → VRel β' (mk b') x := by
  have hinj : ∀ {a c : AObj}, h.new a = h.new c → a = c := by
    intro a c hh
    have := H.get_new h a h.next
    rw [hh, H.get_new] at this
    simpa using this.symm
  have hptr : ∀ {β β' : Ren} {b b' : Nat} {x : Value} {p : Place}, VRel β (.pointer (some ⟨b, 0, none⟩)) x → β b = some p → β' b' = some p → VRel β' (.pointer (some ⟨b', 0, none⟩)) x := by
    intro β β' b b' x p h1 h2 h3
    obtain ⟨q, h4, rfl⟩ := h1.of_ptr
    rw [h2] at h4; cases h4
    exact .ptr h3
  have hsl : ∀ {n e : Nat} {β β' : Ren} {b b' : Nat} {x : Value} {p : Place}, VRel β (.slice (some ⟨b, 0, none⟩) n e) x → β b = some p → β' b' = some p → VRel β' (.slice (some ⟨b', 0, none⟩) n e) x := by
    intro n e β β' b b' x p h1 h2 h3
    cases h1 with
    | slice cc h hl he => rw [h2] at h; cases h; exact .slice cc h3 hl he
    | slice0 a h ho => rw [h2] at h; cases h; exact .slice0 a h3 ho
  have hpn : ∀ {β : Ren} {b : Nat} {x : Value}, VRel β (.pointer (some ⟨b, 0, none⟩)) x → ∃ p, β b = some p := by
    intro β b x h1
    obtain ⟨q, h4, _⟩ := h1.of_ptr
    exact ⟨q, h4⟩
  have hsn : ∀ {n e : Nat} {β : Ren} {b : Nat} {x : Value}, VRel β (.slice (some ⟨b, 0, none⟩) n e) x → ∃ p, β b = some p := by
    intro n e β b x h1
    cases h1 with
    | slice cc h hl he => exact ⟨_, h⟩
    | slice0 a h ho => exact ⟨_, h⟩
  cases o <;> first | (cases hc; done) | skip
  all_goals simp only [opA] at hv ⊢
  case alloc e zs =>
    injection hv with hv; injection hv with h1 h2
    obtain rfl := hinj h2
    exact ⟨fun b => .pointer (some ⟨b, 0, none⟩), h1.symm, fun g => rfl, hpn, hptr⟩
  case box e x =>
    split at hv
    · injection hv with hv; injection hv with h1 h2
      obtain rfl := hinj h2
      exact ⟨fun b => .pointer (some ⟨b, 0, none⟩), h1.symm, fun g => rfl, hpn, hptr⟩
    · cases hv
  case buildSl e a b zs ps =>
    unfold buildSlA at hv ⊢
    split at hv
    · rename_i hcond
      split at hv
      · rename_i xs hf
        injection hv with hv; injection hv with h1 h2
        obtain rfl := hinj h2
        exact ⟨fun q => .slice (some ⟨q, 0, none⟩) b a, h1.symm, fun g => by rw [if_pos hcond], hsn, hsl⟩
      · cases hv
    · cases hv
  case rangeStr x =>
    unfold rangeStr at hv ⊢
    split at hv
    · injection hv with hv; injection hv with h1 h2
      obtain rfl := hinj h2
      exact ⟨fun b => .pointer (some ⟨b, 0, none⟩), h1.symm, fun g => rfl, hpn, hptr⟩
    · cases hv
  case makeSl e a b zs l c =>
    unfold makeSlA at hv ⊢
    split at hv
    · rename_i n m hl hm
      split at hv
      · rename_i hcond
        injection hv with hv; injection hv with h1 h2
        obtain rfl := hinj h2
        exact ⟨fun q => .slice (some ⟨q, 0, none⟩) n.toNat a, h1.symm, fun g => by rw [if_pos hcond], hsn, hsl⟩
      · cases hv
    · cases hv

end
end Go.Abs
