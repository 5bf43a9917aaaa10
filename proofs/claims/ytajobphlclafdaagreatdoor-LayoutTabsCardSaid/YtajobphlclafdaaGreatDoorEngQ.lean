import Derived.Test.YtajobphlclafdaaGreatDoorEngP
set_option linter.unusedVariables false
set_option linter.unusedSimpArgs false
/-! Regions that draw their order: the proof. -/
namespace Go.Abs
open Go.RowKit (Below)
section
variable {P : Program} {ops : Array Oper} {n : Nat} {F : FF}

/-- Each stands behind all that must come ahead of it. -/
def Topo (ops : Array Oper) (D : List Nat) : Prop := ∀ D1 i D2, D = D1 ++ i :: D2 → ∀ o e, ops[i]? = some o → e ∈ o.after → Region.binds .any e = true → e.on ∈ D1

theorem Topo.closed {D : List Nat} (h : Topo ops D) : Closed ops D := by
  intro i o e hi ho he hb
  obtain ⟨D1, D2, rfl⟩ := List.append_of_mem hi
  exact List.mem_append_left _ (h D1 i D2 rfl o e ho he hb)

theorem Topo.snoc {D : List Nat} (h : Topo ops D) {i : Nat} {o : Oper} (ho : ops[i]? = some o) (hd : directOk o D = true) : Topo ops (D ++ [i]) := by
  intro D1 j D2 he o' e ho' hee hb
  rcases List.eq_nil_or_concat D2 with rfl | ⟨D3, k, rfl⟩
  · obtain ⟨rfl, h2⟩ := List.append_inj' he (by simp)
    simp at h2; subst h2
    rw [ho] at ho'; cases ho'
    exact directOk_spec hd e hee hb
  · have he2 : D ++ [i] = (D1 ++ j :: D3) ++ [k] := by rw [he]; simp
    obtain ⟨h1, _⟩ := List.append_inj' he2 (by simp)
    exact h D1 j D3 h1 o' e ho' hee hb

theorem group_topo {ms : List Nat} {A : List AInstr} {E : List Nat} : ∀ (g : List Nat) {D : List Nat}, Topo ops D → groupOk ms ops A E D g = true → Topo ops (D ++ g)
  | [], D, h, _ => by simpa using h
  | i :: g, D, h, hg => by
    simp only [groupOk, Bool.and_eq_true, Bool.not_eq_true'] at hg
    obtain ⟨⟨⟨⟨g1, g2⟩, g3⟩, g4⟩, g5⟩ := hg
    cases ho : ops[i]? with
    | none => rw [ho] at g3; cases g3
    | some o =>
      rw [ho] at g3
      have := group_topo g (h.snoc ho g3) g5
      simpa using this

theorem group_ahead {ms : List Nat} {A : List AInstr} {E : List Nat} : ∀ (g : List Nat) {D : List Nat}, groupOk ms ops A E D g = true → ∀ i ∈ g, ∀ e ∈ E, ahead ms e i = true
  | [], _, _, i, hi => by simp at hi
  | j :: g, D, hg, i, hi => by
    simp only [groupOk, Bool.and_eq_true, Bool.not_eq_true'] at hg
    obtain ⟨⟨⟨⟨g1, g2⟩, g3⟩, g4⟩, g5⟩ := hg
    simp only [List.mem_cons] at hi
    rcases hi with rfl | hi
    · exact fun e he => List.all_eq_true.1 g4 e he
    · exact group_ahead g g5 i hi

/-- What comes later comes behind every effect so far. -/
theorem stages_later {ms : List Nat} {A : List AInstr} : ∀ (l : List Stage) {D E : List Nat}, stagesOk true ms ops A D E l = true → ∀ i, i < ops.size → i ∉ D → ∀ e ∈ E, ahead ms e i = true
  | [], _, _, h, _, _, _ => by cases h
  | s :: l, D, E, h, i, hi, hD => by
    intro e he
    simp only [stagesOk, Bool.and_eq_true] at h
    obtain ⟨⟨h1, h2⟩, h3⟩ := h
    by_cases hg : i ∈ s.group
    · exact group_ahead _ h1 i hg e he
    have hDg : i ∉ D ++ s.group := by simp [hD, hg]
    cases hs : s.eff with
    | none =>
      rw [hs] at h3
      simp only [Bool.and_eq_true] at h3
      have := List.all_eq_true.1 h3.2 i (List.mem_range.2 hi)
      exact absurd (by simpa using this) (by simpa using hDg)
    | some x =>
      rw [hs] at h3
      simp only [Bool.and_eq_true] at h3
      obtain ⟨⟨⟨⟨a1, a2⟩, a3⟩, a4⟩, a5⟩ := h3
      by_cases hx : i = x
      · subst hx; exact List.all_eq_true.1 a2 e he
      cases hp : s.pair with
      | some e' =>
        rw [hp] at a5
        simp only [Bool.and_eq_true, Bool.true_and] at a5
        obtain ⟨⟨⟨⟨⟨⟨⟨⟨b1, b2⟩, b3⟩, b4⟩, b5⟩, b6⟩, b7⟩, b8⟩, b9⟩ := a5
        have := List.all_eq_true.1 b9 i (List.mem_range.2 hi)
        simp only [Bool.or_eq_true, List.contains_eq_mem, decide_eq_true_eq, beq_iff_eq] at this
        rcases this with (h | h) | h
        · exact absurd h hDg
        · exact absurd h hx
        · subst h; exact List.all_eq_true.1 b2 e he
      | none =>
        rw [hp] at a5
        exact stages_later l a5 i hi (by simp only [List.mem_append, List.mem_singleton, not_or]; exact ⟨by simpa using hDg, hx⟩) e (List.mem_append_left _ he)

/-- How the model stands, with S come up, to the stages, with D had. -/
structure Inv (P : Program) (ops : Array Oper) (n B0 : Nat) (β0 : Ren) (h0 : H) (w0 : World) (D E : List Nat) (ids : Nat → Option Nat) (rd : Bool) (t : VT) (h : H) (S : Nat → Prop) (β : Ren) (a : Act) (w : World) : Prop where
  sub : ∀ i, S i → i ∈ D
  effs : ∀ i ∈ D, effB ops (ins P ops) i = true → S i
  effE : ∀ e ∈ E, S e
  down : ∀ i o e, S i → ops[i]? = some o → e ∈ o.after → Region.binds .any e = true → S e.on
  gone : Go1 B0 β0 h0 w0 β h w
  size : a.tmps.size = n
  defers : a.defers = []
  tmps : ∀ d, (∃ i x, i ∈ D ∧ ¬ S i ∧ (ins P ops)[i]? = some x ∧ x.dst = some d) ∨ VRel β (t.get d) (a.tmps.getD d undef)
  pend : ∀ i ∈ D, ¬ S i → Told P ops n t h ids rd i
  unn : ∀ i ∈ D, ¬ S i → ∀ b, ids i = some b → β b = none
  idr : ∀ i b, ids i = some b → i ∈ D ∧ h0.next ≤ b ∧ b < h.next
  idi : ∀ i j b, ids i = some b → ids j = some b → i = j

/-- What an operation that may come up reads is what the stages say. -/
theorem Inv.reads {B0 : Nat} {β0 : Ren} {h0 : H} {w0 : World} {D E : List Nat} {ids : Nat → Option Nat} {rd : Bool} {t : VT} {h : H} {S : Nat → Prop} {β : Ren} {a : Act} {w : World} (hT : tempsOk (order ops) ops (ins P ops) = true)
    (hI : Inv P ops n B0 β0 h0 w0 D E ids rd t h S β a w) {i : Nat} {o : Oper} {x : AInstr} (ho : ops[i]? = some o) (hx : (ins P ops)[i]? = some x) (hlt : ∀ j ∈ D, j < ops.size)
    (hpre : ∀ e ∈ o.after, Region.binds .any e = true → S e.on) : ∀ d ∈ x.reads, VRel β (t.get d) (a.tmps.getD d undef) := by
  intro d hd
  have hi : i < ops.size := (Array.getElem?_eq_some_iff.1 ho).1
  rcases hI.tmps d with ⟨j, y, hjD, hjS, hy, hyd⟩ | h
  · exfalso
    by_cases e : j = i
    · subst e
      rw [hx] at hy; cases hy
      exact (tempsOk_spec hT hi hi hx hx hyd).1 rfl hd
    · rcases ((tempsOk_spec hT (hlt j hjD) hi hy hx hyd).2 e).2 hd with ha | ⟨_, ha⟩
      · exact hjS (Reach.mem hI.down (ahead_reach ha) fun o' e' ho' he hb => by rw [ho] at ho'; cases ho'; exact hpre e' he hb)
      · exact hjS (hI.effs j hjD ha)
  · exact h

theorem put_get {a : Act} {o : Oper} {n : Nat} (hs : a.tmps.size = n) (v : Value) (d : Nat) : (a.put o.dst v).tmps.getD d undef = if o.dst = some d ∧ d < n then v else a.tmps.getD d undef := by
  cases hd : o.dst with
  | none => simp [Act.put]
  | some q =>
    simp only [Act.put, Array.getD_eq_getD_getElem?, Option.some.injEq]
    by_cases e : q = d
    · subst e
      by_cases hq : q < n
      · rw [if_pos ⟨rfl, hq⟩]
        have : q < a.tmps.size := by rw [hs]; exact hq
        simp [this]
      · rw [if_neg (by rintro ⟨_, h⟩; exact hq h)]
        have hq' : a.tmps.size ≤ q := by rw [hs]; exact Nat.le_of_not_lt hq
        rw [Array.getElem?_eq_none (by simpa using hq'), Array.getElem?_eq_none hq']
    · rw [if_neg (by rintro ⟨h, _⟩; exact e h), Array.getElem?_setIfInBounds_ne e]

theorem put_size {a : Act} {o : Oper} (v : Value) : (a.put o.dst v).tmps.size = a.tmps.size := by cases h : o.dst <;> simp [Act.put]
theorem put_defers {a : Act} {o : Oper} (v : Value) : (a.put o.dst v).defers = a.defers := by cases h : o.dst <;> simp [Act.put]

/-- One more has come up. -/
def more (S : Nat → Prop) (i : Nat) : Nat → Prop := fun j => S j ∨ j = i

/-- An operation that has had its turn in the stages comes up: the new state's facts. -/
theorem Inv.step {B0 : Nat} {β0 : Ren} {h0 : H} {w0 : World} {D E : List Nat} {ids : Nat → Option Nat} {t : VT} {h : H} {S : Nat → Prop} {β β' : Ren} {a : Act} {w w' : World}
    (hI : Inv P ops n B0 β0 h0 w0 D E ids true t h S β a w) {i : Nat} {o : Oper} (ho : ops[i]? = some o) (hiD : i ∈ D)
    (hpre : ∀ e ∈ o.after, Region.binds .any e = true → S e.on) {v' : Value}
    (hle : β.le β') (hgo : Go1 B0 β0 h0 w0 β' h w') (hv : ∀ d, o.dst = some d → d < n ∧ VRel β' (t.get d) v')
    (hold : ∀ b, b < h.next → ids i ≠ some b → β b = none → β' b = none) :
    Inv P ops n B0 β0 h0 w0 D E ids true t h (more S i) β' (a.put o.dst v') w' := by
  refine ⟨?_, fun j hj he => .inl (hI.effs j hj he), fun e he => .inl (hI.effE e he), ?_, hgo, by rw [put_size]; exact hI.size, by rw [put_defers]; exact hI.defers, ?_, ?_, ?_, hI.idr, hI.idi⟩
  · intro j hj
    rcases hj with hj | rfl
    · exact hI.sub j hj
    · exact hiD
  · intro j o' e hj ho' he hb
    rcases hj with hj | rfl
    · exact .inl (hI.down j o' e hj ho' he hb)
    · rw [ho] at ho'; cases ho'; exact .inl (hpre e he hb)
  · intro d
    rw [put_get hI.size]
    by_cases hd : o.dst = some d
    · right
      rw [if_pos ⟨hd, (hv d hd).1⟩]
      exact (hv d hd).2
    · rw [if_neg (by rintro ⟨h, _⟩; exact hd h)]
      rcases hI.tmps d with ⟨j, x, hjD, hjS, hx, hxd⟩ | hr
      · by_cases e : j = i
        · subst e
          have := ins_of (P := P) ho
          rw [this] at hx; cases hx
          rw [compInstr_dst] at hxd
          exact absurd hxd hd
        · exact .inl ⟨j, x, hjD, fun hh => hh.elim hjS e, hx, hxd⟩
      · exact .inr (hr.mono hle)
  · intro j hj hjS
    exact hI.pend j hj fun hh => hjS (.inl hh)
  · intro j hj hjS b hb
    have h1 : ¬ S j := fun hh => hjS (.inl hh)
    have h2 : j ≠ i := fun hh => hjS (.inr hh)
    exact hold b (hI.idr j b hb).2.2 (fun hh => h2 (hI.idi _ _ _ hb hh)) (hI.unn j hj h1 b hb)

/-- An operation that has had its turn in the stages comes up. -/
theorem Inv.up {B0 : Nat} {β0 : Ren} {h0 : H} {w0 : World} {D E : List Nat} {ids : Nat → Option Nat} {t : VT} {h : H} {S : Nat → Prop} {β : Ren} {a : Act} {w : World} (hF : Good P F) (hT : tempsOk (order ops) ops (ins P ops) = true)
    (hI : Inv P ops n B0 β0 h0 w0 D E ids true t h S β a w) {i : Nat} {o : Oper} (ho : ops[i]? = some o) (hiD : i ∈ D) (hiS : ¬ S i) (hlt : ∀ j ∈ D, j < ops.size)
    (hpre : ∀ e ∈ o.after, Region.binds .any e = true → S e.on) {K : Act → World → Prop} {Q : Exit → Act → World → Prop}
    (hK : ∀ β' a' w', Inv P ops n B0 β0 h0 w0 D E ids true t h (more S i) β' a' w' → K a' w') : wpOp P ops Q i K a w := by
  have hr := hI.gone.rel
  obtain ⟨x, hx, hne, hcase⟩ := hI.pend i hiD hiS
  have hreads := hI.reads hT ho hx hlt hpre
  have hx' := ins_of (P := P) ho
  rw [hx] at hx'; cases hx'
  have hg : ∀ d b, (compInstr P ops o).guard = some (d, b) → VRel β (t.get d) (a.tmps.getD d undef) := fun d b h => hreads d (reads_guard h)
  have hop : ∀ x ∈ (compInstr P ops o).op.opnds, VRel β (rho t x) (a.eval x) := by
    intro y hy
    cases y with
    | tmp d => exact hreads d (reads_op hy)
    | const v =>
      simp only [Abs.rho, Act.eval]
      split
      · rename_i hf; exact VRel.of_flat hf
      · exact .undef _
    | global g =>
      simp only [Abs.rho, Act.eval]
      split
      · rename_i hg; obtain ⟨e, he⟩ := hr.gl g hg; exact .ptr (p := ⟨g, 0, e⟩) he
      · exact .undef _
    | func f => exact .func _ _ _ _ _ rfl rfl (fun i hi => by simp at hi) (fun i hi => by simp at hi)
  have hnone : ∀ {β' : Ren} {w' : World}, Go1 B0 β h w β' h w' → ∀ b, b < h.next → β b = none → β' b = none := fun g b hb hn => (g.old b hb).trans hn
  have hstay : ∀ {β' : Ren} {w' : World} {v v' : Value}, Go1 B0 β h w β' h w' → VRel β' v v' → (∀ d, o.dst = some d → d < n ∧ t.get d = v) → K (a.put o.dst v') w' := by
    intro β' w' v v' hg' hv' hd
    refine hK β' _ w' (hI.step ho hiD hpre (hg'.le hr) (hI.gone.trans hg') (fun d hdd => ⟨(hd d hdd).1, ?_⟩) fun b hb _ hn => hnone hg' b hb hn)
    rw [(hd d hdd).2]; exact hv'
  rw [compInstr_dst] at hcase
  rcases hcase with ⟨hw, hd⟩ | ⟨hw, v, hd, hc⟩
  · exact exec_skip ho hg hw (hstay (Go1.refl hr) (v := skipv) .skip hd)
  · have hev : ∀ {g g' : H} {v : Value}, (compInstr P ops o).op.cls ≠ .eff → opA (rho t) g (compInstr P ops o).op = some (v, g') → evalA F t g (compInstr P ops o).op = some (v, g') := by
      intro g g' v hne he
      unfold evalA
      split
      · rename_i f args hco; rw [hco] at hne; exact absurd rfl hne
      · exact he
    rcases hc with ⟨c1, c2⟩ | ⟨c1, c2⟩ | ⟨c1, hc, obj, c2, c3, c4⟩
    · exact exec_ok hF hr ho hg hop hw (hev (by rw [c1]; decide) (c2 h)) fun β' v' w' g e => hstay g e hd
    · exact exec_ok hF hr ho hg hop hw (hev (by rw [c1]; decide) (c2 rfl)) fun β' v' w' g e => hstay g e hd
    · obtain ⟨mk, m1, m2, m3, m4⟩ := alloc_any c1 c3
      refine exec_ok hF hr ho hg hop hw (hev (by rw [c1]; decide) (m2 h)) fun β' v' w' g e => ?_
      obtain ⟨p, hp⟩ := m3 e
      obtain ⟨hidD, hidl, hidh⟩ := hI.idr i _ c2
      have hN : Named β obj := by
        classical
        rcases want_of hg hw with ⟨hbad, _⟩ | ⟨_, hopc⟩
        · rw [hbad] at c1; cases c1
        let ρ1 : Operand → Value := fun x => if x ∈ (compOp P o.op).opnds then rho t x else undef
        have hρ1 : ∀ x, VRel β (ρ1 x) (a.eval x) := by
          intro x
          show VRel β (if x ∈ (compOp P o.op).opnds then rho t x else undef) (a.eval x)
          split
          · rename_i hm; rw [← hopc] at hm; exact hop x hm
          · exact .undef _
        have he' : opA ρ1 hc (compOp P o.op) = some (v, hc.new obj) := by
          rw [← hopc, ← c3]
          rw [hopc]
          refine opA_congr _ fun x hx => ?_
          show (if x ∈ (compOp P o.op).opnds then rho t x else undef) = _
          rw [if_pos hx]
        exact alloc_named hρ1 (by rw [← hopc]; exact c1) he'
      obtain ⟨f1, f2⟩ := HRel.fill hr g hp hidh c4 (hI.unn i hiD hiS _ c2) hN
      have hgo : Go1 B0 β0 h0 w0 (β.put hc.next p) h w' := by
        refine ⟨f1, fun b hb => ?_, hI.gone.next, hI.gone.kept, hI.gone.below.trans g.below⟩
        rw [Ren.put_other _ _ (by omega)]
        exact hI.gone.old b hb
      have hle : β.le (β.put hc.next p) := by
        intro b q hb
        rw [Ren.put_other]
        · exact hb
        · rintro rfl
          rw [hI.unn i hiD hiS _ c2] at hb; cases hb
      refine hK _ _ w' (hI.step ho hiD hpre hle hgo (fun d hdd => ⟨(hd d hdd).1, ?_⟩) ?_)
      · rw [(hd d hdd).2, m1]
        exact m4 e hp (Ren.put_same _ _ _)
      · intro b hb hne hn
        rw [Ren.put_other _ _ (fun e => hne (by rw [e]; exact c2))]
        exact hn

end
end Go.Abs
