import Derived.Test.YtajobphlclafdaaGreatDoorEngN
set_option linter.unusedVariables false
set_option linter.unusedSimpArgs false
/-! A block that is made later than it is named. -/
namespace Go.Abs
open Go.RowKit (Below)
section
variable {P : Program}

theorem VRel.swap {β β' γ : Ren} (hag : ∀ b p, β b = some p → γ b = β' b) {v x' : Value} (h2 : VRel β' v x') : ∀ {x : Value}, VRel β v x → VRel γ v x' := by
  induction h2 with
  | undef v => intro x h1; exact .undef _
  | skip => intro x h1; exact .skip
  | bool b => intro x h1; exact .bool b
  | int k n => intro x h1; exact .int k n
  | string s => intro x h1; exact .string s
  | nilptr => intro x h1; exact .nilptr
  | ptr h => intro x h1; cases h1 with | ptr h' => exact .ptr ((hag _ _ h').trans h)
  | nilslice => intro x h1; exact .nilslice
  | slice cc h hl he => intro x h1; cases h1 with
    | slice _ h' _ _ => exact .slice cc ((hag _ _ h').trans h) hl he
    | slice0 _ h' _ => exact .slice cc ((hag _ _ h').trans h) hl he
  | slice0 a h ho => intro x h1; cases h1 with
    | slice _ h' _ _ => exact .slice0 a ((hag _ _ h').trans h) ho
    | slice0 _ h' _ => exact .slice0 a ((hag _ _ h').trans h) ho
  | nilmap => intro x h1; exact .nilmap
  | map h => intro x h1; cases h1 with | map h' => exact .map ((hag _ _ h').trans h)
  | func fn f f' c c' hf hc rf rc ihf ihc =>
    intro x h1
    cases h1 with
    | func _ _ g' _ d' hg hd rg rd =>
      exact .func fn f f' c c' hf hc (fun i h h' => ihf i h h' (rg i h (by omega))) (fun i h h' => ihc i h h' (rd i h (by omega)))
  | nilFunc => intro x h1; exact .nilFunc
  | iface t h ih => intro x h1; cases h1 with | iface _ h' => exact .iface t (ih h')
  | nilIface => intro x h1; exact .nilIface
  | agg c c' hc rc ih =>
    intro x h1
    cases h1 with
    | agg _ d' hd rd => exact .agg c c' hc (fun i h h' => ih i h h' (rd i h (by omega)))
  | tuple c c' hc rc ih =>
    intro x h1
    generalize hy : Value.tuple c = y at h1
    cases h1 with
    | undef => simp only [Go.undef, Value.tuple.injEq] at hy; subst hy; exact .undef _
    | tuple c0 d' hd rd => cases hy; exact .tuple c c' hc (fun i h h' => ih i h h' (rd i h (by omega)))
    | _ => cases hy

theorem LRel.swap {β β' γ : Ren} (hag : ∀ b p, β b = Option.some p → γ b = β' b) {l x' : List Value} (h2 : LRel β' l x') : ∀ {x : List Value}, LRel β l x → LRel γ l x' := by
  induction h2 with
  | nil => intro x _; exact .nil
  | cons h t ih => intro x h1; cases h1 with | cons h' t' => exact .cons (h.swap hag h') (ih t')

theorem ERel.swap {β β' γ : Ren} (hag : ∀ b p, β b = some p → γ b = β' b) {l : List (Value × Value)} {x' : List MapEntry} (h2 : ERel β' l x') :
    (∀ kv ∈ l, ∃ x, VRel β kv.2 x) → ERel γ l x' := by
  induction h2 with
  | nil => intro _; exact .nil
  | cons hk h t ih =>
    intro h1
    obtain ⟨x, hx⟩ := h1 (_, _) (List.mem_cons_self ..)
    exact .cons hk (h.swap hag hx) (ih fun kv hkv => h1 kv (by simp [hkv]))

theorem ERel.vals {β : Ren} {l : List (Value × Value)} {x' : List MapEntry} (h : ERel β l x') : ∀ kv ∈ l, ∃ x, VRel β kv.2 x := by
  induction h with
  | nil => intro kv hkv; simp at hkv
  | cons hk h t ih =>
    intro kv hkv
    simp only [List.mem_cons] at hkv
    rcases hkv with rfl | hkv
    · exact ⟨_, h⟩
    · exact ih kv hkv

/-- Of what an object holds all is named by β. -/
def Named (β : Ren) : AObj → Prop
  | .cells c _ _ => ∃ x, LRel β c x
  | .map es => ∀ kv ∈ es, ∃ x, VRel β kv.2 x
  | _ => True

theorem ORel.named {β : Ren} {w : World} {p : Place} {o : AObj} (h : ORel β w p o) : Named β o := by
  cases o with
  | cells c e m => obtain ⟨arr, t, fz, h1, h2, h3, _⟩ := h; exact ⟨_, h3⟩
  | map es =>
    obtain ⟨en, ck, es', h1, h2, h3⟩ := h
    exact fun kv hkv => h3.vals kv (h2.mem_iff.1 hkv)
  | siter s q => trivial
  | dead => trivial

theorem ORel.swap {β β' γ : Ren} (hag : ∀ b p, β b = some p → γ b = β' b) {w : World} {p : Place} {o : AObj} (h : ORel β' w p o) (hn : Named β o) : ORel γ w p o := by
  cases o with
  | cells c e m =>
    obtain ⟨arr, t, fz, h1, h2, h3, h4⟩ := h
    obtain ⟨x, hx⟩ := hn
    exact ⟨arr, t, fz, h1, h2, h3.swap hag hx, h4⟩
  | map es =>
    obtain ⟨en, ck, es', h1, h2, h3⟩ := h
    exact ⟨en, ck, es', h1, h2, h3.swap hag fun kv hkv => hn kv (h2.mem_iff.2 hkv)⟩
  | siter s q => exact h
  | dead => trivial

/-- The zeros that an operation bears are without addresses. -/
def AOp.zs : AOp → List Value
  | .alloc _ zs | .build _ zs _ | .buildSl _ _ _ zs _ | .makeSl _ _ _ zs _ _ => zs
  | _ => []
theorem compOp_zs {P : Program} (op : Op) : (compOp P op).zs.all flat1 = true := by
  have hz : ∀ {e : TypeId} {zs : List Value}, zeroB P e = some zs → zs.all flat1 = true := fun hz => by obtain ⟨z, _, _, h3⟩ := zeroB_run hz; exact h3
  cases op
  case slice t x lo hi mx => cases mx <;> simp only [compOp] <;> (repeat' split) <;> rfl
  case call c =>
    obtain ⟨callee, as, ts⟩ := c
    cases callee with
    | value g => rfl
    | invoke r m => rfl
    | builtin b => cases b <;> simp only [compOp] <;> (repeat' split) <;> rfl
  case next it b => cases b <;> rfl
  case binOp op t x y ty => cases op <;> simp only [compOp, compBin] <;> (repeat' split) <;> rfl
  all_goals (simp only [compOp]; (repeat' split) <;> first | rfl | exact hz (by assumption))

theorem alloc_named {β : Ren} {ρ ρ' : Operand → Value} (hρ : ∀ x, VRel β (ρ x) (ρ' x)) {P : Program} {op : Op} {h : H} {v : Value} {obj : AObj} (hc : (compOp P op).cls = .alloc) (hv : opA ρ h (compOp P op) = some (v, h.new obj)) : Named β obj := by
  have hinj : ∀ {a c : AObj}, h.new a = h.new c → a = c := by
    intro a c hh
    have := H.get_new h a h.next
    rw [hh, H.get_new] at this
    simpa using this.symm
  have hzs := compOp_zs (P := P) op
  generalize compOp P op = o at hc hv hzs
  cases o <;> first | (cases hc; done) | skip
  all_goals simp only [opA] at hv
  case alloc e zs =>
    injection hv with hv; injection hv with h1 h2
    obtain rfl := hinj h2
    have : zs.all flat1 = true := hzs
    exact ⟨zs, flat1_list this⟩
  case box e x =>
    split at hv
    · rename_i xs hx
      injection hv with hv; injection hv with h1 h2
      obtain rfl := hinj h2
      obtain ⟨xs', _, e2, _⟩ := vcells_rel (hρ x) hx
      exact ⟨xs', e2⟩
    · cases hv
  case buildSl e a b zs ps =>
    unfold buildSlA at hv
    split at hv
    · split at hv
      · rename_i xs hf
        injection hv with hv; injection hv with h1 h2
        obtain rfl := hinj h2
        have : zs.all flat1 = true := hzs
        obtain ⟨ys', _, r2⟩ := fill_rel (place := fun i => some (i * a, a)) (cells' := (zeros zs b).toArray) (PRel.map hρ ps) (by simpa using flat1_list (zeros_flat this _)) hf
        exact ⟨_, r2⟩
      · cases hv
    · cases hv
  case rangeStr x =>
    unfold rangeStr at hv
    split at hv
    · injection hv with hv; injection hv with h1 h2
      obtain rfl := hinj h2
      trivial
    · cases hv
  case makeSl e a b zs l c =>
    unfold makeSlA at hv
    split at hv
    · split at hv
      · injection hv with hv; injection hv with h1 h2
        obtain rfl := hinj h2
        have : zs.all flat1 = true := hzs
        exact ⟨_, flat1_list (zeros_flat this _)⟩
      · cases hv
    · cases hv

/-- A block that has its name is made now. -/
theorem HRel.fill {B0 : Nat} {β β' : Ren} {h : H} {w w' : World} {obj : AObj} {id : Nat} {p : Place} (hr : HRel B0 β h w) (hg : Go1 B0 β h w β' (h.new obj) w') (hp : β' h.next = some p) (hid : id < h.next) (hgid : h.get id = some obj) (hnone : β id = none)
    (hN : Named β obj) : HRel B0 (β.put id p) h w' ∧ ∀ b, b < h.next → b ≠ id → (β.put id p) b = β b := by
  have hagree : ∀ b q, β b = some q → (β.put id p) b = β' b := by
    intro b q hb
    have hbn : b < h.next := by
      rcases Nat.lt_or_ge b h.next with hx | hx
      · exact hx
      · rw [(hr.fresh b hx).1] at hb; cases hb
    rw [Ren.put_other _ _ (by rintro rfl; rw [hnone] at hb; cases hb), hg.old b hbn]
  have hk : ∀ {b : Nat} {o : AObj}, h.get b = some o → b < h.next := by
    intro b o hb
    rcases Nat.lt_or_ge b h.next with hx | hx
    · exact hx
    · rw [(hr.fresh b hx).2] at hb; cases hb
  -- each block of h that β.put names, as β' names it
  have hview : ∀ {b : Nat} {o : AObj} {q : Place}, h.get b = some o → (β.put id p) b = some q → ∃ b', (h.new obj).get b' = some o ∧ β' b' = some q ∧ Named β o ∧ (b = id → b' = h.next) ∧ (b ≠ id → b' = b) := by
    intro b o q hb hq
    by_cases e : b = id
    · subst e
      rw [Ren.put_same] at hq; cases hq
      rw [hgid] at hb; cases hb
      exact ⟨h.next, by rw [H.get_new, if_pos rfl], hp, hN, fun _ => rfl, fun hh => absurd rfl hh⟩
    · rw [Ren.put_other _ _ e] at hq
      have hbn := hk hb
      exact ⟨b, by rw [H.get_new, if_neg (by omega)]; exact hb, by rw [hg.old b hbn]; exact hq, (hr.obj b o q hb hq).named, fun hh => absurd hh e, fun _ => rfl⟩
  refine ⟨⟨?_, ?_, ?_, ?_, ?_, ?_, ?_, ?_⟩, fun b _ hb => Ren.put_other _ _ hb⟩
  · intro b o q hb hq
    obtain ⟨b', h1, h2, h3, _, _⟩ := hview hb hq
    exact (hg.rel.obj b' o q h1 h2).swap hagree h3
  · intro b o q hb hq hmine
    obtain ⟨b', h1, h2, _, _, _⟩ := hview hb hq
    exact hg.rel.mine b' o q h1 h2 hmine
  · intro b c o o' q q' hb hc hq hq' hm1 hm2 he
    obtain ⟨b', h1, h2, _, h4, h5⟩ := hview hb hq
    obtain ⟨c', k1, k2, _, k4, k5⟩ := hview hc hq'
    have := hg.rel.apart b' c' o o' q q' h1 k1 h2 k2 hm1 hm2 he
    have hbn := hk hb
    have hcn := hk hc
    by_cases eb : b = id <;> by_cases ec : c = id
    · rw [eb, ec]
    · have e1 := h4 eb; have e2 := k5 ec; omega
    · have e1 := h5 eb; have e2 := k4 ec; omega
    · have e1 := h5 eb; have e2 := k5 ec; omega
  · intro b hb
    rw [Ren.put_other _ _ (by omega)]
    exact hr.fresh b hb
  · intro g q hq
    by_cases e : g = id
    · subst e; rw [Ren.put_same] at hq; cases hq; exact hg.rel.glob _ _ hp
    · rw [Ren.put_other _ _ e] at hq
      have := hr.glob g q hq
      have h2 := hg.below.size
      omega
  · intro b c e q hb hq
    obtain ⟨b', h1, h2, _, _, _⟩ := hview hb hq
    exact hg.rel.frg b' c e q h1 h2
  · exact hg.rel.size
  · intro g hgl
    obtain ⟨e, he⟩ := hr.gl g hgl
    refine ⟨e, ?_⟩
    rw [Ren.put_other _ _ (by rintro rfl; rw [hnone] at he; cases he)]
    exact he

/-- One name more, of a block that is not made yet. -/
theorem HRel.name {B0 : Nat} {β : Ren} {h : H} {w : World} (hr : HRel B0 β h w) (o : AObj) : HRel B0 β (h.new o) w := by
  have hne : ∀ {b : Nat} {p : Place}, β b = some p → b ≠ h.next := fun e => by
    rintro rfl; rw [(hr.fresh _ (Nat.le_refl _)).1] at e; cases e
  refine ⟨?_, ?_, ?_, ?_, hr.glob, ?_, hr.size, hr.gl⟩
  · intro b o' p hb hp; rw [H.get_new, if_neg (hne hp)] at hb; exact hr.obj b o' p hb hp
  · intro b o' p hb hp hm; rw [H.get_new, if_neg (hne hp)] at hb; exact hr.mine b o' p hb hp hm
  · intro b b' o1 o2 p q hb hb' hp hq hm1 hm2 he
    rw [H.get_new, if_neg (hne hp)] at hb; rw [H.get_new, if_neg (hne hq)] at hb'
    exact hr.apart b b' o1 o2 p q hb hb' hp hq hm1 hm2 he
  · intro b hb
    simp only [H.next_new] at hb
    rw [H.get_new, if_neg (by omega)]
    exact hr.fresh b (by omega)
  · intro b c e p hb hp; rw [H.get_new, if_neg (hne hp)] at hb; exact hr.frg b c e p hb hp

end
end Go.Abs
