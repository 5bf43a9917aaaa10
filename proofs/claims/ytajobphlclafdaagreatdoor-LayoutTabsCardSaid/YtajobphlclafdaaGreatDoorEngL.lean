import Derived.Test.YtajobphlclafdaaGreatDoorEngX
set_option linter.unusedVariables false
set_option linter.unusedSimpArgs false
/-! The abstract machine is right: code, functions. -/
namespace Go.Abs
open Go.RowKit (Below)

def AExit.to : AExit → Exit
  | .norm => .normal
  | .exit i => .exit i
  | .ret => .ret

/-- The region that draws (to be shown below). -/
def DrawRight (P : Program) : Prop :=
  ∀ {F : FF}, Good P F → ∀ {B0 : Nat} {β : Ren} {h h' : H} {w : World} {n id : Nat} {t t' : VT} {a : Act} {ops : Array Oper} {l : List Stage} {Q : Exit → Act → World → Prop},
    HRel B0 β h w → TRel β n t a → drawOk ops (ops.toList.map (compInstr P ops)) l = true → P.follows .mixedOrders = true → stagesA F n (ops.toList.map (compInstr P ops)) l t h = some (t', h') →
    (∀ β' a' w', Go1 B0 β h w β' h' w' → TRel β' n t' a' → Q .normal a' w') → (Code.region id ops true).wp P Q a w

section
variable {P : Program}

theorem ops_ok {F : FF} (hF : Good P F) {B0 : Nat} {n : Nat} {ops : Array Oper} {Q : Exit → Act → World → Prop} : ∀ (k i : Nat), i + k = ops.size → ∀ {β : Ren} {h h' : H} {w : World} {t t' : VT} {a : Act},
    HRel B0 β h w → TRel β n t a → opsA F n ((ops.toList.drop i).map (compInstr P ops)) t h = some (t', h') →
    (∀ β' a' w', Go1 B0 β h w β' h' w' → TRel β' n t' a' → Q .normal a' w') → wpOps P ops Q (List.range' i k) a w := by
  intro k
  induction k with
  | zero =>
    intro i hi β h h' w t t' a hr ht ho hQ
    rw [List.drop_eq_nil_of_le (by simp; omega)] at ho
    cases ho
    exact hQ β a w (Go1.refl hr) ht
  | succ k ih =>
    intro i hi β h h' w t t' a hr ht ho hQ
    have hlt : i < ops.toList.length := by simp; omega
    rw [List.drop_eq_getElem_cons hlt, List.map_cons] at ho
    simp only [opsA] at ho
    split at ho
    · rename_i t1 h1 hs
      rw [List.range'_succ, wpOps_cons]
      refine step_ok hF hr ht (i := i) (by simp at hlt; simp [hlt]) hs ?_
      intro β' a' w' hg ht'
      exact ih (i + 1) (by omega) hg.rel ht' ho fun β'' a'' w'' hg' ht'' => hQ _ _ _ (hg.trans hg') ht''
    · cases ho

theorem code_ok (hD : DrawRight P) {F : FF} (hF : Good P F) {B0 : Nat} {n m : Nat} : ∀ (c : Code) (an : Ann) {β : Ren} {h h' : H} {w : World} {t t' : VT} {a : Act} {e : AExit} {Q : Exit → Act → World → Prop},
    HRel B0 β h w → TRel β n t a → codeA F n m (comp P c an) t h = some (e, t', h') →
    (∀ β' a' w', Go1 B0 β h w β' h' w' → TRel β' n t' a' → Q e.to a' w') → c.wp P Q a w := by
  -- what is kept or not
  have hkeep : ∀ {c : Code} {f : Ann → ACode} (an : Ann), (∀ (an : Ann) {β : Ren} {h h' : H} {w : World} {t t' : VT} {a : Act} {e : AExit} {Q : Exit → Act → World → Prop},
      HRel B0 β h w → TRel β n t a → codeA F n m (f an) t h = some (e, t', h') → (∀ β' a' w', Go1 B0 β h w β' h' w' → TRel β' n t' a' → Q e.to a' w') → c.wp P Q a w) →
      ∀ {β : Ren} {h h' : H} {w : World} {t t' : VT} {a : Act} {e : AExit} {Q : Exit → Act → World → Prop},
      HRel B0 β h w → TRel β n t a → codeA F n m (compIn P f an) t h = some (e, t', h') → (∀ β' a' w', Go1 B0 β h w β' h' w' → TRel β' n t' a' → Q e.to a' w') → c.wp P Q a w := by
    intro c f an hf
    induction an with
    | keep ks an ih =>
      intro β h h' w t t' a e Q hr ht hc hQ
      simp only [compIn, codeA] at hc
      refine ih hr ?_ hc hQ
      refine ⟨ht.size, fun i => ?_, ht.defers⟩
      rcases VT.get_keep t ks i with e | e
      · rw [e]; exact ht.rel i
      · rw [e]; exact .undef _
    | none => intro β h h' w t t' a e Q hr ht hc hQ; exact hf _ hr ht hc hQ
    | two x y => intro β h h' w t t' a e Q hr ht hc hQ; exact hf _ hr ht hc hQ
    | one x => intro β h h' w t t' a e Q hr ht hc hQ; exact hf _ hr ht hc hQ
    | draw l => intro β h h' w t t' a e Q hr ht hc hQ; exact hf _ hr ht hc hQ
  intro c
  induction c with
  | skip => intro an β h h' w t t' a e Q hr ht hc hQ; simp only [comp, codeA] at hc; cases hc; exact wp_skip (hQ β a w (Go1.refl hr) ht)
  | label l => intro an β h h' w t t' a e Q hr ht hc hQ; simp only [comp, codeA] at hc; cases hc; exact wp_label (hQ β a w (Go1.refl hr) ht)
  | region id ops d =>
    intro an
    cases d with
    | true =>
      simp only [comp, if_true]
      refine hkeep an ?_
      intro an β h h' w t t' a e Q hr ht hc hQ
      cases an with
      | draw l =>
        simp only [] at hc
        split at hc
        · rename_i hok
          simp only [Bool.and_eq_true] at hok
          simp only [codeA, norm] at hc
          split at hc
          · rename_i t1 h1 hs
            cases hc
            exact hD hF hr ht hok.1 hok.2 hs hQ
          · cases hc
        · simp only [codeA] at hc; cases hc
      | _ => simp only [codeA] at hc; cases hc
    | false =>
      simp only [comp, Bool.false_eq_true, if_false]
      refine hkeep an ?_
      intro an β h h' w t t' a e Q hr ht hc hQ
      simp only [codeA, norm] at hc
      split at hc
      · rename_i t1 h1 hs
        cases hc
        refine wp_region ?_
        rw [List.range_eq_range']
        exact ops_ok hF ops.size 0 (by omega) hr ht (by simpa using hs) hQ
      · cases hc
  | seq x y ihx ihy =>
    intro an
    simp only [comp]
    refine hkeep an ?_
    intro an β h h' w t t' a e Q hr ht hc hQ
    simp only [codeA] at hc
    split at hc
    · rename_i t1 h1 hx
      refine wp_seq (ihx an.left hr ht hx ?_)
      intro β' a' w' hg ht'
      exact ihy an.right hg.rel ht' hc fun β'' a'' w'' hg' ht'' => hQ _ _ _ (hg.trans hg') ht''
    · rename_i hn
      refine wp_seq (ihx an.left hr ht hc ?_)
      intro β' a' w' hg ht'
      have := hQ β' a' w' hg ht'
      cases e with
      | norm => exact absurd hc (hn _ _)
      | exit i => exact this
      | ret => exact this
  | cond c x y ihx ihy =>
    intro an
    simp only [comp]
    refine hkeep an ?_
    intro an β h h' w t t' a e Q hr ht hc hQ
    simp only [codeA] at hc
    have hcr := ht.rho hr c
    split at hc
    · rename_i hb
      rw [hb] at hcr
      exact wp_cond hcr.of_bool (by simpa using ihx an.left hr ht hc hQ)
    · rename_i hb
      rw [hb] at hcr
      exact wp_cond hcr.of_bool (by simpa using ihy an.right hr ht hc hQ)
    · cases hc
  | block id x ih =>
    intro an
    simp only [comp]
    refine hkeep an ?_
    intro an β h h' w t t' a e Q hr ht hc hQ
    simp only [codeA] at hc
    split at hc
    · rename_i i t1 h1 hx
      split at hc
      · rename_i hi
        cases hc
        refine wp_block (ih an.down hr ht hx ?_)
        intro β' a' w' hg ht'
        simp only [AExit.to, Exit.inBlock, hi, if_true]
        exact hQ β' a' w' hg ht'
      · rename_i hi
        cases hc
        refine wp_block (ih an.down hr ht hx ?_)
        intro β' a' w' hg ht'
        simp only [AExit.to, Exit.inBlock, hi, if_false]
        exact hQ β' a' w' hg ht'
    · rename_i hn
      refine wp_block (ih an.down hr ht hc ?_)
      intro β' a' w' hg ht'
      have := hQ β' a' w' hg ht'
      cases e with
      | norm => exact this
      | exit i => exact absurd hc (hn _ _ _)
      | ret => exact this
  | loop x ih =>
    intro an
    simp only [comp]
    refine hkeep an ?_
    intro an β h h' w t t' a e Q hr ht hc hQ
    simp only [codeA] at hc
    refine wp_loop_rounds m ?_
    have key : ∀ (k : Nat) {β1 : Ren} {h1 : H} {w1 : World} {t1 : VT} {a1 : Act}, Go1 B0 β h w β1 h1 w1 → TRel β1 n t1 a1 → loopN (codeA F n m (comp P x an.down)) k t1 h1 = some (e, t', h') → Code.rounds P x Q k a1 w1 := by
      intro k
      induction k with
      | zero => intro β1 h1 w1 t1 a1 _ _ hl; cases hl
      | succ k ihk =>
        intro β1 h1 w1 t1 a1 hg1 ht1 hl
        rw [rounds_succ]
        simp only [loopN] at hl
        split at hl
        · rename_i t2 h2 hb
          refine ih an.down hg1.rel ht1 hb ?_
          intro β' a' w' hg ht'
          exact ihk (hg1.trans hg) ht' hl
        · rename_i hn
          refine ih an.down hg1.rel ht1 hl ?_
          intro β' a' w' hg ht'
          have := hQ β' a' w' (hg1.trans hg) ht'
          cases e with
          | norm => exact absurd hl (hn _ _)
          | exit i => exact this
          | ret => exact this
    exact key m (Go1.refl hr) ht hc
  | exit id =>
    intro an
    simp only [comp]
    refine hkeep an ?_
    intro an β h h' w t t' a e Q hr ht hc hQ
    simp only [codeA] at hc; cases hc
    exact wp_exit (hQ β a w (Go1.refl hr) ht)
  | ret =>
    intro an
    simp only [comp]
    refine hkeep an ?_
    intro an β h h' w t t' a e Q hr ht hc hQ
    simp only [codeA] at hc; cases hc
    exact wp_ret (hQ β a w (Go1.refl hr) ht)
  | _ => intro an β h h' w t t' a e Q hr ht hc hQ; simp only [comp, codeA] at hc; cases hc

theorem initT_get : ∀ (l : List Value) (k i : Nat), (initT l k).get i = if k ≤ i then (l[i - k]?).getD undef else undef
  | [], k, i => by simp [initT, VT.get]
  | v :: l, k, i => by
    simp only [initT, VT.get_set]
    by_cases e : i = k
    · subst e; simp
    · rw [if_neg e, initT_get l (k + 1) i]
      by_cases h1 : k ≤ i
      · rw [if_pos h1, if_pos (by omega)]
        obtain ⟨j, rfl⟩ : ∃ j, i = k + 1 + j := ⟨i - (k + 1), by omega⟩
        rw [show k + 1 + j - (k + 1) = j by omega, show k + 1 + j - k = j + 1 by omega]
        simp
      · rw [if_neg h1, if_neg (by omega)]

theorem load1_run {B0 : Nat} {β : Ren} {h : H} {w : World} (hr : HRel B0 β h w) {t : TypeId} {x x' v : Value} (ht : aggB P t = some false) (hx : VRel β x x') (hv : load1 h x = some v) :
    ∃ a' v', x' = .pointer (some a') ∧ (loadVar t a').run P w = .ok v' w ∧ VRel β v v' := by
  unfold load1 at hv
  split at hv
  · rename_i b o hp
    obtain ⟨p, hb, rfl, rfl⟩ := ptrOf_rel hx hp
    split at hv
    · rename_i c e m hg
      have h1 : rd h b o 1 = some [v] := by
        unfold rd
        rw [hg]
        have : o < c.length := (List.getElem?_eq_some_iff.1 hv).1
        simp only [show o + 1 ≤ c.length from this, if_true]
        rw [List.drop_eq_getElem_cons this]
        simp [(List.getElem?_eq_some_iff.1 hv).2]
      obtain ⟨xs', r1, r2, r3, r4⟩ := rd_rel hr hb h1
      obtain ⟨v', rfl, r5⟩ := r1.some
      have hc := r4 0 v' rfl
      rw [show p.base + o + 0 = p.base + o from rfl] at hc
      refine ⟨_, v', rfl, ?_, r5⟩
      simp only [loadVar, Sem.run_bind, Result.andThen_ok, aggB_run ht, Bool.false_eq_true, if_false, run_load]
      rw [hc]
    · cases hv
  · cases hv

theorem loadN_run {B0 : Nat} {β : Ren} {h : H} {w : World} (hr : HRel B0 β h w) {t : TypeId} {n : Nat} {x x' v : Value} (ht : aggB P t = some true) (hn : sizeB P t = some n) (hx : VRel β x x') (hv : loadN h n x = some v) :
    ∃ a' v', x' = .pointer (some a') ∧ (loadVar t a').run P w = .ok v' w ∧ VRel β v v' := by
  unfold loadN at hv
  split at hv
  · rename_i b o hp
    obtain ⟨p, hb, rfl, rfl⟩ := ptrOf_rel hx hp
    cases hd : rd h b o n with
    | none => rw [hd] at hv; cases hv
    | some xs =>
      rw [hd] at hv; cases hv
      obtain ⟨xs', r1, r2, r3, r4⟩ := rd_rel hr hb hd
      have hl := run_loadCells_list (P := P) w ⟨p.blk, p.base + o, none⟩ xs' (fun j v hj => by rw [add_at]; exact r4 j v hj)
      have : xs'.length = n := by rw [← r1.length]; exact r2
      rw [this] at hl
      refine ⟨_, .agg xs'.toArray, rfl, ?_, VRel.agg_iff (by simpa using r1)⟩
      simp only [loadVar, Sem.run_bind, Sem.run_pure, Result.andThen_ok, aggB_run ht, if_true, sizeB_run hn, hl]
  · cases hv

/-- A result variable, read. -/
def resRun (a : Act) : ResultVar → Sem Value
  | .tmp t => Pure.pure (a.tmps.getD t undef)
  | .cell c ty => do loadVar ty (← asAddr (a.tmps.getD c undef))

theorem resA_rel {B0 : Nat} {β : Ren} {h : H} {w : World} {n : Nat} {t : VT} {a : Act} (hr : HRel B0 β h w) (ht : TRel β n t a) : ∀ {rs : List ResultVar} {as : List ARes} {vs : List Value}, compRes P rs = some as → resList t h as = some vs →
    ∃ vs', (rs.mapM (resRun a)).run P w = .ok vs' w ∧ LRel β vs vs' := by
  intro rs
  induction rs with
  | nil => intro as vs hc hv; cases hc; cases hv; exact ⟨[], rfl, .nil⟩
  | cons r rs ih =>
    intro as vs hc hv
    cases r with
    | tmp i =>
      simp only [compRes] at hc
      cases hcr : compRes P rs with
      | none => rw [hcr] at hc; cases hc
      | some as' =>
        rw [hcr] at hc; cases hc
        simp only [resList, resA] at hv
        split at hv
        · rename_i v vs1 h1 h2
          cases h1; cases hv
          obtain ⟨vs', e1, e2⟩ := ih hcr h2
          refine ⟨_ :: vs', ?_, .cons (ht.rel i) e2⟩
          simp only [List.mapM_cons, resRun, Sem.run_bind, Sem.run_pure, Result.andThen_ok, e1]
        · cases hv
    | cell c ty =>
      simp only [compRes] at hc
      split at hc
      · rename_i hag
        cases hcr : compRes P rs with
        | none => rw [hcr] at hc; cases hc
        | some as' =>
          rw [hcr] at hc; cases hc
          simp only [resList, resA] at hv
          split at hv
          · rename_i v vs1 h1 h2
            cases hv
            obtain ⟨vs', e1, e2⟩ := ih hcr h2
            obtain ⟨a', v', hx, hl, hvr⟩ := load1_run hr hag (ht.rel c) h1
            refine ⟨v' :: vs', ?_, .cons hvr e2⟩
            have ha : (asAddr (a.tmps.getD c undef)).run P w = .ok a' w := by rw [hx]; rfl
            simp only [List.mapM_cons, resRun, Sem.run_bind, Sem.run_pure, Result.andThen_ok, e1, ha, hl]
          · cases hv
      · rename_i n' hag hsz
        cases hcr : compRes P rs with
        | none => rw [hcr] at hc; cases hc
        | some as' =>
          rw [hcr] at hc; cases hc
          simp only [resList, resA] at hv
          split at hv
          · rename_i v vs1 h1 h2
            cases hv
            obtain ⟨vs', e1, e2⟩ := ih hcr h2
            obtain ⟨a', v', hx, hl, hvr⟩ := loadN_run hr hag hsz (ht.rel c) h1
            refine ⟨v' :: vs', ?_, .cons hvr e2⟩
            have ha : (asAddr (a.tmps.getD c undef)).run P w = .ok a' w := by rw [hx]; rfl
            simp only [List.mapM_cons, resRun, Sem.run_bind, Sem.run_pure, Result.andThen_ok, e1, ha, hl]
          · cases hv
      · cases hc

theorem results_rel {B0 : Nat} {β : Ren} {h : H} {w : World} {n : Nat} {t : VT} {a : Act} (hr : HRel B0 β h w) (ht : TRel β n t a) {fn : Func} {as : List ARes} {v : Value} (hc : compRes P fn.results.toList = some as) (hv : resultsA t h as = some v) :
    ∃ v', (results fn a.tmps).run P w = .ok v' w ∧ VRel β v v' := by
  unfold resultsA at hv
  cases hl : resList t h as with
  | none => rw [hl] at hv; cases hv
  | some vs =>
    rw [hl] at hv
    obtain ⟨vs', e1, e2⟩ := resA_rel hr ht hc hl
    have hm : (fn.results.mapM (resRun a)).run P w = .ok vs'.toArray w := by
      rw [← Array.toArray_toList (xs := fn.results), List.mapM_toArray, Sem.run_map, e1]; rfl
    have hlen := e2.length
    have hrun : (results fn a.tmps).run P w = .ok (if h : vs'.toArray.size = 1 then vs'.toArray[0] else .tuple vs'.toArray) w := by
      show (do let vs ← fn.results.mapM (resRun a); Pure.pure (if h : vs.size = 1 then vs[0] else .tuple vs)).run P w = _
      rw [Sem.run_bind, hm]
      simp only [Result.andThen_ok, Sem.run_pure]
    split at hv
    · rename_i u hu
      cases hv
      cases hu
      obtain ⟨u', rfl, hvr⟩ := e2.some
      exact ⟨u', by rw [hrun]; simp, hvr⟩
    · rename_i us hne hu
      cases hv
      cases hu
      have h1 : ¬ vs'.toArray.size = 1 := by
        intro h1
        have : vs.length = 1 := by simpa [hlen] using h1
        match vs, this, hne with
        | [u], _, hne => exact hne u rfl
      refine ⟨.tuple vs'.toArray, by rw [hrun, dif_neg h1], VRel.tuple_of (by simpa using e2)⟩
    · cases hv

/-- The table tells the program's functions. -/
def TabOk (P : Program) (tab : FuncId → Option AFunc) : Prop :=
  ∀ f af, tab f = some af → ∃ fn an, P.funcs[f]? = some fn ∧ (fn.name == "runtime.NumGoroutine") = false ∧ compF P fn an = some af

theorem call_ok (hD : DrawRight P) {tab : FuncId → Option AFunc} (hT : TabOk P tab) {ext : FF} (hE : Good P ext) (m : Nat) : ∀ k, Good P (callA tab ext m k) := by
  intro k
  induction k with
  | zero => intro f args h v h' hc; cases hc
  | succ k ih =>
    intro f args h v h' hc
    simp only [callA] at hc
    cases ht : tab f with
    | none => rw [ht] at hc; exact hE f args h v h' hc
    | some af =>
      rw [ht] at hc
      simp only [] at hc
      split at hc
      · rename_i hlen
        obtain ⟨fn, an, hfn, hname, hcomp⟩ := hT f af ht
        unfold compF at hcomp
        split at hcomp
        · rename_i c rs hbody hres
          cases hcomp
          intro B0 β w cargs hr hargs
          left
          have hcl := hargs.length
          constructor
          · have hb : fn.body.isNone = false := by rw [hbody]; rfl
            unfold callFunc
            simp only [Sem.run_bind, run_program, Result.andThen_ok, hfn, hname, hb, Bool.false_eq_true, if_false, Sem.run_pure]
          · refine calls_of_wp hfn hbody ?_
            have htr : TRel β fn.ntmps (initT args 0) { tmps := cargs.toArray ++ Array.replicate (fn.ntmps - cargs.toArray.size) undef, defers := [] } := by
              refine ⟨by simp at hlen ⊢; omega, fun i => ?_, rfl⟩
              rw [initT_get]
              simp only [Nat.zero_le, if_true, Nat.sub_zero, Array.getD_eq_getD_getElem?]
              by_cases hi : i < args.length
              · obtain ⟨v', e1, e2⟩ := hargs.get (List.getElem?_eq_getElem hi)
                rw [List.getElem?_eq_getElem hi, Array.getElem?_append_left (by simp; omega)]
                simp only [List.getElem?_toArray, e1, Option.getD_some]
                exact e2
              · rw [List.getElem?_eq_none (by omega)]
                exact .undef _
            split at hc
            · cases hc
            · rename_i e t1 h1 hne hcode
              split at hc
              · rename_i v1 hv1
                cases hc
                refine code_ok hD ih c an hr htr hcode ?_
                intro β' a' w' hg ht'
                obtain ⟨v', r1, r2⟩ := results_rel (fn := fn) hg.rel ht' hres hv1
                cases e with
                | norm => exact ⟨ht'.defers, v', r1, v', β', rfl, r2, hg⟩
                | ret => exact ⟨ht'.defers, v', r1, v', β', rfl, r2, hg⟩
                | exit i => exact (hne i rfl).elim
              · cases hc
            · cases hc
        · cases hcomp
      · cases hc

end
end Go.Abs
