import Derived.Test.YtajobphlclafdaaGreatDoorEngQ
set_option linter.unusedVariables false
set_option linter.unusedSimpArgs false
/-! Regions that draw their order: whatever the tape says, the stages' end. -/
namespace Go.Abs
open Go.RowKit (Below)
section
variable {P : Program} {ops : Array Oper} {n : Nat} {F : FF}

theorem Inv.opnds {B0 : Nat} {β0 : Ren} {h0 : H} {w0 : World} {D E : List Nat} {ids : Nat → Option Nat} {rd : Bool} {t : VT} {h : H} {S : Nat → Prop} {β : Ren} {a : Act} {w : World} (hT : tempsOk (order ops) ops (ins P ops) = true)
    (hI : Inv P ops n B0 β0 h0 w0 D E ids rd t h S β a w) {i : Nat} {o : Oper} (ho : ops[i]? = some o) (hlt : ∀ j ∈ D, j < ops.size)
    (hpre : ∀ e ∈ o.after, Region.binds .any e = true → S e.on) :
    (∀ d b, (compInstr P ops o).guard = some (d, b) → VRel β (t.get d) (a.tmps.getD d undef)) ∧ ∀ x ∈ (compInstr P ops o).op.opnds, VRel β (rho t x) (a.eval x) := by
  have hreads := hI.reads hT ho (ins_of ho) hlt hpre
  refine ⟨fun d b h => hreads d (reads_guard h), ?_⟩
  intro y hy
  cases y with
  | tmp d => exact hreads d (reads_op hy)
  | const v =>
    simp only [Abs.rho, Act.eval]
    split
    · rename_i hf; exact VRel.of_flat hf
    · exact .undef _
  | global g =>
    simp only [Abs.rho, Act.eval]
    split
    · rename_i hg; obtain ⟨e, he⟩ := hI.gone.rel.gl g hg; exact .ptr (p := ⟨g, 0, e⟩) he
    · exact .undef _
  | func f => exact .func _ _ _ _ _ rfl rfl (fun i hi => by simp at hi) (fun i hi => by simp at hi)

theorem again_spec {A : List AInstr} {t : VT} {h : H} : ∀ (l : List Nat), againA t h (pick A l) = true → ∀ i ∈ l, ∀ x, A[i]? = some x →
    (wantedA t x.guard = some true ∧ ∃ d v h', x.dst = some d ∧ opA (rho t) h x.op = some (v, h') ∧ t.get d = v) ∨ wantedA t x.guard = some false
  | [], _, i, hi => by simp at hi
  | j :: l, ha, i, hi => by
    intro x hx
    simp only [List.mem_cons] at hi
    simp only [pick] at ha
    cases hj : A[j]? with
    | none =>
      rw [hj] at ha
      simp only [] at ha
      rcases hi with rfl | hi
      · rw [hx] at hj; cases hj
      · exact again_spec l ha i hi x hx
    | some y =>
      rw [hj] at ha
      simp only [againA, Bool.and_eq_true] at ha
      rcases hi with rfl | hi
      · rw [hx] at hj; cases hj
        have := ha.1
        split at this
        · rename_i hw
          split at this
          · rename_i d v h' hd ho
            exact .inl ⟨hw, d, v, h', hd, ho, veqA_eq this⟩
          · cases this
        · rename_i hw; exact .inr hw
        · cases this
      · exact again_spec l ha.2 i hi x hx

/-- The facts behind a group. -/
theorem Inv.group {B0 : Nat} {β0 : Ren} {h0 : H} {w0 : World} {D E : List Nat} {ids : Nat → Option Nat} {t t1 : VT} {h h1 : H} {S : Nat → Prop} {β : Ren} {a : Act} {w : World} (hT : tempsOk (order ops) ops (ins P ops) = true)
    (hI : Inv P ops n B0 β0 h0 w0 D E ids false t h S β a w) (hlt : ∀ j ∈ D, j < ops.size) (hD : Closed ops D) {g ag : List Nat} (hg : groupOk (order ops) ops (ins P ops) E D g = true)
    (hr : opsA F n (pick (ins P ops) g) t h = some (t1, h1)) (hag : againA t1 h1 (pick (ins P ops) ag) = true)
    (hrd : ((D ++ g).all fun i => !readB (ins P ops) i || ag.contains i || E.any fun e => ahead (order ops) i e) = true) :
    ∃ ids', Inv P ops n B0 β0 h0 w0 (D ++ g) E ids' true t1 h1 S β a w ∧ ∀ j ∈ D ++ g, j < ops.size := by
  obtain ⟨k1, k2, k3, k4, k5, k6, idg, k7, k8, k9⟩ := group_run hT g hD hg hr
  have hdisj : ∀ i ∈ g, i ∉ D := fun i hi => (k6 i hi).1
  -- what is read again
  have hfresh : ∀ i ∈ D ++ g, ¬ S i → ∀ x, (ins P ops)[i]? = some x → x.op.cls = .read → wantedA t1 x.guard = some true → ∀ v, (∀ d, x.dst = some d → d < n ∧ t1.get d = v) → opA (rho t1) h1 x.op = some (v, h1) := by
    intro i hi hS x hx hc hw v hv
    have h1' := List.all_eq_true.1 hrd i hi
    simp only [Bool.or_eq_true, Bool.not_eq_true', List.any_eq_true] at h1'
    rcases h1' with (h2 | h2) | ⟨e, he, h2⟩
    · simp [readB, hx, hc] at h2
    · rcases again_spec ag hag i (by simpa using h2) x hx with ⟨_, d, v', h', e1, e2, e3⟩ | h3
      · have := read_same hc e2
        subst this
        rw [e2, ← e3, (hv d e1).2]
      · rw [hw] at h3; cases h3
    · exact absurd (Reach.mem hI.down (ahead_reach h2) fun o' e' ho' he' hb => hI.down e o' e' (hI.effE e he) ho' he' hb) hS
  have hfin : ∀ (ids : Nat → Option Nat) i, i ∈ D ++ g → ¬ S i → Told P ops n t1 h1 ids false i → Told P ops n t1 h1 ids true i := by
    intro ids i hi hS ⟨x, hx, x2, x3⟩
    refine ⟨x, hx, x2, ?_⟩
    rcases x3 with x3 | ⟨w1, v, w2, w3⟩
    · exact .inl x3
    · refine .inr ⟨w1, v, w2, ?_⟩
      rcases w3 with w3 | ⟨c1, _⟩ | w3
      · exact .inl w3
      · exact .inr (.inl ⟨c1, fun _ => hfresh i hi hS x hx c1 w1 v w2⟩)
      · exact .inr (.inr w3)
  have hids : ∀ i b, ((idg i).or (ids i)) = some b → (i ∈ g ∧ idg i = some b ∧ h.next ≤ b ∧ b < h1.next) ∨ (i ∈ D ∧ ids i = some b ∧ h0.next ≤ b ∧ b < h.next) := by
    intro i b hb
    cases hgi : idg i with
    | some c =>
      rw [hgi] at hb
      simp at hb; subst hb
      obtain ⟨z1, z2, z3⟩ := k8 i _ hgi
      exact .inl ⟨z1, rfl, z2, z3⟩
    | none =>
      rw [hgi] at hb
      simp at hb
      obtain ⟨z1, z2, z3⟩ := hI.idr i b hb
      exact .inr ⟨z1, hb, z2, z3⟩
  have hin : ∀ i ∈ D ++ g, i < ops.size := by
    intro i hi
    rcases List.mem_append.1 hi with hi | hi
    · exact hlt i hi
    · exact (k6 i hi).2.1
  refine ⟨fun i => (idg i).or (ids i), ⟨?_, ?_, hI.effE, hI.down, ?_, hI.size, hI.defers, ?_, ?_, ?_, ?_, ?_⟩, hin⟩
  · exact fun i hi => List.mem_append_left _ (hI.sub i hi)
  · intro i hi he
    rcases List.mem_append.1 hi with hi | hi
    · exact hI.effs i hi he
    · rw [(k6 i hi).2.2.1] at he; cases he
  · exact ⟨k4 _ _ _ hI.gone.rel, hI.gone.old, Nat.le_trans hI.gone.next k2, fun b hb hn => (k3 b (Nat.lt_of_lt_of_le hb hI.gone.next)).trans (hI.gone.kept b hb hn), hI.gone.below⟩
  · intro d
    by_cases hex : ∃ i x, i ∈ g ∧ (ins P ops)[i]? = some x ∧ x.dst = some d
    · obtain ⟨i, x, hi, hx, hxd⟩ := hex
      exact .inl ⟨i, x, List.mem_append_right _ hi, fun hS => hdisj i hi (hI.sub i hS), hx, hxd⟩
    · rw [k5 d fun i x hi hx hxd => hex ⟨i, x, hi, hx, hxd⟩]
      rcases hI.tmps d with ⟨i, x, hi, hS, hx, hxd⟩ | hr
      · exact .inl ⟨i, x, List.mem_append_left _ hi, hS, hx, hxd⟩
      · exact .inr hr
  · intro i hi hS
    refine hfin _ i hi hS ?_
    rcases List.mem_append.1 hi with hiD | hig
    · -- one from before
      obtain ⟨x, hx, x2, x3⟩ := hI.pend i hiD hS
      have hilt := hlt i hiD
      have hsame : ∀ d, (d ∈ x.reads ∨ x.dst = some d) → t1.get d = t.get d := by
        intro d hd
        refine k5 d ?_
        intro j y hj hy hyd
        obtain ⟨m1, m2, m3, m4⟩ := k6 j hj
        have hne : j ≠ i := by rintro rfl; exact m1 hiD
        obtain ⟨_, sp⟩ := tempsOk_spec hT m2 hilt hy hx hyd
        obtain ⟨sp1, sp2⟩ := sp hne
        rcases hd with hd | hd
        · rcases sp2 hd with ha | ⟨_, ha⟩
          · exact m1 (Reach.mem (S := (· ∈ D)) (fun i o e hi ho he hb => hD i o e hi ho he hb) (ahead_reach ha) fun o' e' ho' he' hb => hD i o' e' hiD ho' he' hb)
          · rw [m3] at ha; cases ha
        · exact sp1 hd
      have hread : ∀ d ∈ x.reads, t.get d = t1.get d := fun d hd => (hsame d (.inl hd)).symm
      have hgi : idg i = none := by
        cases hgi : idg i with
        | none => rfl
        | some b => exact absurd hiD (hdisj i (k8 i b hgi).1)
      refine ⟨x, hx, x2, ?_⟩
      rw [← wanted_temps hread]
      rcases x3 with ⟨w1, w2⟩ | ⟨w1, v, w2, w3⟩
      · exact .inl ⟨w1, fun d hd => ⟨(w2 d hd).1, by rw [hsame d (.inr hd)]; exact (w2 d hd).2⟩⟩
      · refine .inr ⟨w1, v, fun d hd => ⟨(w2 d hd).1, by rw [hsame d (.inr hd)]; exact (w2 d hd).2⟩, ?_⟩
        rcases w3 with ⟨c1, c2⟩ | ⟨c1, _⟩ | ⟨c1, hc, obj, c2, c3, c4⟩
        · exact .inl ⟨c1, fun g => by rw [← opA_temps hread]; exact c2 g⟩
        · exact .inr (.inl ⟨c1, fun hh => by cases hh⟩)
        · refine .inr (.inr ⟨c1, hc, obj, by simp [hgi, c2], by rw [← opA_temps hread]; exact c3, ?_⟩)
          rw [k3 _ (hI.idr i _ c2).2.2]; exact c4
    · obtain ⟨x, hx, x2, x3⟩ := k7 i hig
      refine ⟨x, hx, x2, ?_⟩
      rcases x3 with x3 | ⟨w1, v, w2, w3⟩
      · exact .inl x3
      · refine .inr ⟨w1, v, w2, ?_⟩
        rcases w3 with w3 | w3 | ⟨c1, hc, obj, c2, c3⟩
        · exact .inl w3
        · exact .inr (.inl w3)
        · exact .inr (.inr ⟨c1, hc, obj, by simp [c2], c3⟩)
  · intro i hi hS b hb
    rcases hids i b hb with ⟨_, _, z3, _⟩ | ⟨z1, z2, _, _⟩
    · exact (hI.gone.rel.fresh b z3).1
    · exact hI.unn i z1 hS b z2
  · intro i b hb
    have := hI.gone.next
    rcases hids i b hb with ⟨z1, _, z3, z4⟩ | ⟨z1, _, z3, z4⟩
    · exact ⟨List.mem_append_right _ z1, by omega, z4⟩
    · exact ⟨List.mem_append_left _ z1, z3, by omega⟩
  · intro i j b hb hb'
    rcases hids i b hb with ⟨_, z2, z3, z4⟩ | ⟨_, z2, z3, z4⟩ <;> rcases hids j b hb' with ⟨_, y2, y3, y4⟩ | ⟨_, y2, y3, y4⟩
    · exact k9 _ _ _ z2 y2
    · omega
    · omega
    · exact hI.idi _ _ _ z2 y2

/-- An effect comes up. -/
theorem Inv.effect {B0 : Nat} {β0 : Ren} {h0 : H} {w0 : World} {D E : List Nat} {ids : Nat → Option Nat} {t t2 : VT} {h h2 : H} {S : Nat → Prop} {β : Ren} {a : Act} {w : World} (hF : Good P F) (hT : tempsOk (order ops) ops (ins P ops) = true)
    (hI : Inv P ops n B0 β0 h0 w0 D E ids true t h S β a w) (hD : Closed ops D) {i : Nat} {o : Oper} (ho : ops[i]? = some o) (hiD : i ∉ D) (heff : effB ops (ins P ops) i = true) (hlt : ∀ j ∈ D, j < ops.size)
    (hpre : ∀ e ∈ o.after, Region.binds .any e = true → S e.on) (hs : stepA F n (compInstr P ops o) t h = some (t2, h2)) {K : Act → World → Prop} {Q : Exit → Act → World → Prop}
    (hK : ∀ β' a' w', Inv P ops n B0 β0 h0 w0 (D ++ [i]) (E ++ [i]) ids false t2 h2 (more S i) β' a' w' → K a' w') : wpOp P ops Q i K a w := by
  have hr := hI.gone.rel
  have hilt : i < ops.size := (Array.getElem?_eq_some_iff.1 ho).1
  obtain ⟨hg, hop⟩ := hI.opnds hT ho hlt hpre
  have hiS : ¬ S i := fun hh => hiD (hI.sub i hh)
  have hput : ∀ {v : Value} {h' : H}, (match putA n t (compInstr P ops o).dst v with | some t' => some (t', h') | none => none) = some (t2, h2) → h2 = h' ∧ (∀ d, o.dst ≠ some d → t2.get d = t.get d) ∧ ∀ d, o.dst = some d → d < n ∧ t2.get d = v := by
    intro v h' hp
    rw [compInstr_dst] at hp
    unfold putA at hp
    cases hd : o.dst with
    | none => rw [hd] at hp; cases hp; exact ⟨rfl, fun _ _ => rfl, fun d hd' => by cases hd'⟩
    | some d =>
      rw [hd] at hp
      simp only [] at hp
      split at hp
      · rename_i t3 ht3
        cases hp
        split at ht3
        · rename_i hlt
          cases ht3
          refine ⟨rfl, fun d' hd' => ?_, fun d' hd' => ?_⟩
          · rw [VT.get_set, if_neg (by rintro rfl; exact hd' rfl)]
          · cases hd'; exact ⟨hlt, by rw [VT.get_set, if_pos rfl]⟩
        · cases ht3
      · cases hp
  have hnext : ∀ {β' : Ren} {w' : World} {v v' : Value}, Go1 B0 β h w β' h2 w' → VRel β' v v' → (∀ d, o.dst ≠ some d → t2.get d = t.get d) → (∀ d, o.dst = some d → d < n ∧ t2.get d = v) → K (a.put o.dst v') w' := by
    intro β' w' v v' g hv q1 q2
    refine hK β' _ w' ⟨?_, ?_, ?_, ?_, hI.gone.trans g, by rw [put_size]; exact hI.size, by rw [put_defers]; exact hI.defers, ?_, ?_, ?_, ?_, hI.idi⟩
    · intro j hj
      rcases hj with hj | rfl
      · exact List.mem_append_left _ (hI.sub j hj)
      · simp
    · intro j hj he
      rcases List.mem_append.1 hj with hj | hj
      · exact .inl (hI.effs j hj he)
      · exact .inr (by simpa using hj)
    · intro e he
      rcases List.mem_append.1 he with he | he
      · exact .inl (hI.effE e he)
      · exact .inr (by simpa using he)
    · intro j o' e hj ho' he hb
      rcases hj with hj | rfl
      · exact .inl (hI.down j o' e hj ho' he hb)
      · rw [ho] at ho'; cases ho'; exact .inl (hpre e he hb)
    · intro d
      rw [put_get hI.size]
      by_cases hd : o.dst = some d
      · right
        rw [if_pos ⟨hd, (q2 d hd).1⟩, (q2 d hd).2]
        exact hv
      · rw [if_neg (by rintro ⟨h, _⟩; exact hd h), q1 d hd]
        rcases hI.tmps d with ⟨j, x, hjD, hjS, hx, hxd⟩ | hr'
        · exact .inl ⟨j, x, List.mem_append_left _ hjD, fun hh => hh.elim hjS (by rintro rfl; exact hiD hjD), hx, hxd⟩
        · exact .inr (hr'.mono (g.le hr))
    · intro j hj hjS
      have h1 : ¬ S j := fun hh => hjS (.inl hh)
      have h2' : j ≠ i := fun hh => hjS (.inr hh)
      have hjD : j ∈ D := by
        rcases List.mem_append.1 hj with hj | hj
        · exact hj
        · exact absurd (by simpa using hj) h2'
      obtain ⟨x, hx, x2, x3⟩ := hI.pend j hjD h1
      have hsame : ∀ d, (d ∈ x.reads ∨ x.dst = some d) → t2.get d = t.get d := by
        intro d hd
        refine q1 d ?_
        intro hod
        have hod' : (compInstr P ops o).dst = some d := by rw [compInstr_dst]; exact hod
        obtain ⟨_, sp⟩ := tempsOk_spec hT hilt (hlt j hjD) (ins_of ho) hx hod'
        obtain ⟨sp1, sp2⟩ := sp (Ne.symm h2')
        rcases hd with hd | hd
        · rcases sp2 hd with ha | ⟨ha, _⟩
          · exact hiD (Reach.mem (S := (· ∈ D)) (fun i o e hi ho he hb => hD i o e hi ho he hb) (ahead_reach ha) fun o' e' ho' he' hb => hD j o' e' hjD ho' he' hb)
          · exact h1 (Reach.mem hI.down (ahead_reach ha) fun o' e' ho' he' hb => by rw [ho] at ho'; cases ho'; exact hpre e' he' hb)
        · exact sp1 hd
      have hread : ∀ d ∈ x.reads, t.get d = t2.get d := fun d hd => (hsame d (.inl hd)).symm
      refine ⟨x, hx, x2, ?_⟩
      rw [← wanted_temps hread]
      rcases x3 with ⟨w1, w2⟩ | ⟨w1, v, w2, w3⟩
      · exact .inl ⟨w1, fun d hd => ⟨(w2 d hd).1, by rw [hsame d (.inr hd)]; exact (w2 d hd).2⟩⟩
      · refine .inr ⟨w1, v, fun d hd => ⟨(w2 d hd).1, by rw [hsame d (.inr hd)]; exact (w2 d hd).2⟩, ?_⟩
        rcases w3 with ⟨c1, c2⟩ | ⟨c1, _⟩ | ⟨c1, hc, obj, c2, c3, c4⟩
        · exact .inl ⟨c1, fun g => by rw [← opA_temps hread]; exact c2 g⟩
        · exact .inr (.inl ⟨c1, fun hh => by cases hh⟩)
        · refine .inr (.inr ⟨c1, hc, obj, c2, by rw [← opA_temps hread]; exact c3, ?_⟩)
          rw [g.kept _ (hI.idr j _ c2).2.2 (hI.unn j hjD h1 _ c2)]; exact c4
    · intro j hj hjS b hb
      have h1 : ¬ S j := fun hh => hjS (.inl hh)
      obtain ⟨z1, z2, z3⟩ := hI.idr j b hb
      rw [g.old b z3]
      exact hI.unn j z1 h1 b hb
    · intro j b hb
      obtain ⟨z1, z2, z3⟩ := hI.idr j b hb
      exact ⟨List.mem_append_left _ z1, z2, Nat.lt_of_lt_of_le z3 g.next⟩
  unfold stepA at hs
  split at hs
  · rename_i hw
    split at hs
    · rename_i v h3 he
      obtain ⟨rfl, q1, q2⟩ := hput hs
      exact exec_ok hF hr ho hg hop hw he fun β' v' w' g e => hnext g e q1 q2
    · cases hs
  · rename_i hw
    obtain ⟨rfl, q1, q2⟩ := hput hs
    exact exec_skip ho hg hw (hnext (Go1.refl hr) (v := skipv) .skip q1 q2)
  · cases hs

end
end Go.Abs
