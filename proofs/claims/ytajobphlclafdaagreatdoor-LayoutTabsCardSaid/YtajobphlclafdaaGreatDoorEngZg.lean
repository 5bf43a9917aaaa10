import Derived.Test.YtajobphlclafdaaGreatDoorEngZf
set_option linter.unusedVariables false
set_option linter.unusedSimpArgs false
/-! The quick machine's stages, code and calls. -/
namespace Go.Abs
set_option linter.unusedVariables false
noncomputable section

/-- No call. -/
def noCall : AOp → Bool
  | .call _ _ => false
  | _ => true
theorem evalA_noCall {F : FF} {t : VT} {h : H} {o : AOp} (ho : noCall o = true) : evalA F t h o = opA (rho t) h o := by
  cases o <;> first | rfl | (cases ho)

def okAg (N : Nat) (i : XI) (x : AInstr) : Bool := okI N i x && noCall x.op && x.dst.isSome

theorem xag_ok {F : XF} {FA : FF} (hF : FOK F FA) {N : Nat} {i : XI} {x : AInstr} (hk : okAg N i x = true) {tx : Tm} {t : VT} (ht : TX tx t) {n : Pb} {hx : Hp} {h : H} (H0 : HX n hx h) {k : R} {r : XV} (hr : xag i F tx n hx k = some r) :
    (match wantedA t x.guard with
    | some true => match x.dst, opA (rho t) h x.op with
      | some d, some (v, _) => veqA (t.get d) v
      | _, _ => false
    | some false => true
    | none => false) = true ∧ k = some r := by
  unfold okAg at hk
  simp only [Bool.and_eq_true] at hk
  obtain ⟨⟨hk, hn⟩, hd⟩ := hk
  unfold okI at hk
  split at hk
  · rename_i d o d' a
    simp only [Bool.and_eq_true, beq_iff, ble_iff] at hk
    obtain ⟨⟨rfl, h2⟩, h3⟩ := hk
    obtain ⟨vx, n', hx', h', e1, e2, e3⟩ := xop_ok hF h3 ht H0 (show xop o F tx n hx (fun v _ _ => Bool.rec none k (xsame (tget d tx) v)) = some r from hr)
    rw [evalA_noCall hn] at e1
    rcases boolrec_cases e3 with ⟨_, e3⟩ | ⟨e4, e3⟩
    · cases e3
    · simp only [wantedA, e1, ← ht d]
      exact ⟨xsame_spec e4, e3⟩
  · cases hd
  · rename_i g b d o d' g' b' a
    simp only [Bool.and_eq_true, beq_iff, ble_iff, beq_iff_eq] at hk
    obtain ⟨⟨⟨⟨rfl, rfl⟩, rfl⟩, h2⟩, h3⟩ := hk
    obtain ⟨c, hw, hc⟩ := xgd_spec (show xgd (tget g tx) b (fun c => Bool.rec k (xop o F tx n hx (fun v _ _ => Bool.rec none k (xsame (tget d tx) v))) c) = some r from hr)
    have hw' := hw t _ (ht _).symm
    rcases boolrec_cases hc with ⟨rfl, hc⟩ | ⟨rfl, hc⟩
    · simp only [hw']; exact ⟨trivial, hc⟩
    · obtain ⟨vx, n', hx', h', e1, e2, e3⟩ := xop_ok hF h3 ht H0 hc
      rw [evalA_noCall hn] at e1
      rcases boolrec_cases e3 with ⟨_, e3⟩ | ⟨e4, e3⟩
      · cases e3
      · simp only [hw', e1, ← ht d]
        exact ⟨xsame_spec e4, e3⟩
  · cases hd
  · cases hk

def okAgs (N : Nat) : List XI → List AInstr → Bool
  | [], [] => true
  | i :: l, x :: m => okAg N i x && okAgs N l m
  | _, _ => false

theorem xags_ok {F : XF} {FA : FF} (hF : FOK F FA) {N : Nat} : ∀ {l : List XI} {m : List AInstr}, okAgs N l m = true → ∀ {tx : Tm} {t : VT} {n : Pb} {hx : Hp} {h : H} {k : R} {r : XV}, TX tx t → HX n hx h → xags l F tx n hx k = some r → againA t h m = true ∧ k = some r
  | [], [], _, tx, t, n, hx, h, k, r, ht, H0, hr => ⟨rfl, hr⟩
  | i :: l, x :: m, hk, tx, t, n, hx, h, k, r, ht, H0, hr => by
    simp only [okAgs, Bool.and_eq_true] at hk
    obtain ⟨e1, e2⟩ := xag_ok hF hk.1 ht H0 (show xag i F tx n hx (xags l F tx n hx k) = some r from hr)
    obtain ⟨e3, e4⟩ := xags_ok hF hk.2 ht H0 e2
    refine ⟨?_, e4⟩
    rw [againA, e3, Bool.and_true]
    exact e1
  | [], _ :: _, h, _, _, _, _, _, _, _, _, _, _ => by cases h
  | _ :: _, [], h, _, _, _, _, _, _, _, _, _, _ => by cases h

/-! ### stages -/
def okPair : Option (XO × XO) → AInstr → AInstr → Bool
  | some (x, y), ⟨_, _, .store _ a _⟩, ⟨_, _, .store _ b _⟩ => okO x a && okO y b
  | _, _, _ => false

theorem xblk_spec {x : XV} {k : Pb → R} {r : XV} (h : xblk x k = some r) : ∃ b o, x = .p b o ∧ k b = some r := by
  cases x <;> first | (cases h; done) | skip
  exact ⟨_, _, rfl, h⟩

theorem okPair_spec {p : Option (XO × XO)} {o o' : AInstr} (hk : okPair p o o' = true) {tx : Tm} {t : VT} (ht : TX tx t) {k : R} {r : XV} (hr : xapart p tx k = some r) : apartA t o o' = true ∧ k = some r := by
  unfold okPair at hk
  split at hk
  · rename_i x y d g n a v d' g' n' b v'
    simp only [Bool.and_eq_true] at hk
    obtain ⟨b1, o1, h1, hr1⟩ := xblk_spec (show xblk (xo x tx) (fun a => xblk (xo y tx) (fun b => Bool.rec k none (eqP a b))) = some r from hr)
    obtain ⟨b2, o2, h2, hr2⟩ := xblk_spec hr1
    rcases boolrec_cases hr2 with ⟨h3, hr3⟩ | ⟨_, hr3⟩
    · refine ⟨?_, hr3⟩
      have hne : nb b1 ≠ nb b2 := fun e => by
        rw [eqP_iff.2 (nb_inj e)] at h3; cases h3
      simp only [apartA, ← okO_spec hk.1 ht, ← okO_spec hk.2 ht, h1, h2, toV, ptrOf]
      simpa using hne
    · cases hr3
  · cases hk

def okS (N : Nat) (ops : List AInstr) (s : XS) (st : Stage) (last : Bool) : Bool :=
  okIs N s.group (pick ops st.group) && okAgs N s.again (pick ops st.again) &&
  (match st.eff with
    | none => (match s.eff, s.pair with
      | [], none => true
      | _, _ => false)
    | some e => match ops[e]? with
      | none => false
      | some o => match st.pair with
        | none => okIs N s.eff [o] && s.pair.isNone
        | some e' => match ops[e']? with
          | none => false
          | some o' => okIs N s.eff [o, o'] && okPair s.pair o o' && last)

def okSs (N : Nat) (ops : List AInstr) : List XS → List Stage → Bool
  | [], [] => true
  | s :: l, st :: m => okS N ops s st l.isEmpty && okSs N ops l m
  | _, _ => false

theorem xst_ok {F : XF} {FA : FF} (hF : FOK F FA) {N : Nat} {ops : List AInstr} : ∀ {l : List XS} {m : List Stage}, okSs N ops l m = true → ∀ {tx : Tm} {t : VT} {n : Pb} {hx : Hp} {h : H} {k : KT} {r : XV}, TX tx t → HX n hx h → xst l F tx n hx k = some r → OutT (stagesA FA N ops m t h) k r
  | [], [], _, tx, t, n, hx, h, k, r, ht, H0, hr => ⟨tx, n, hx, t, h, rfl, ht, H0, hr⟩
  | ⟨g, a, e, p⟩ :: l, st :: m, hk, tx, t, n, hx, h, k, r, ht, H0, hr => by
    simp only [okSs, okS, Bool.and_eq_true] at hk
    obtain ⟨⟨⟨h1, h2⟩, h3⟩, h4⟩ := hk
    obtain ⟨tx1, n1, hx1, t1, hh1, e1, ht1, H1, hr1⟩ := xis_ok hF h1 ht H0 (show xis g F tx n hx (fun t n h => xags a F t n h (xapart p t (xis e F t n h (fun t n h => xst l F t n h k)))) = some r from hr)
    obtain ⟨e2, hr2⟩ := xags_ok hF h2 ht1 H1 hr1
    simp only [stagesA, e1, e2, if_true]
    split at h3
    · rename_i he
      split at h3
      · simp only [he]
        exact xst_ok hF h4 ht1 H1 hr2
      · cases h3
    · rename_i ei he
      simp only [he]
      split at h3
      · cases h3
      · rename_i o ho
        simp only [ho]
        split at h3
        · rename_i hp
          simp only [Bool.and_eq_true] at h3
          cases p with
          | some _ => cases h3.2
          | none =>
          obtain ⟨tx2, n2, hx2, t2, hh2, e3, ht2, H2, hr3⟩ := xis_ok hF h3.1 ht1 H1 hr2
          simp only [opsA] at e3
          split at e3
          · rename_i t2' h2' e4
            cases e3
            simp only [hp]
            exact xst_ok hF h4 ht2 H2 hr3
          · cases e3
        · rename_i e' hp
          split at h3
          · cases h3
          · rename_i o' ho'
            simp only [Bool.and_eq_true] at h3
            obtain ⟨⟨h5, h6⟩, h7⟩ := h3
            obtain ⟨e5, hr3⟩ := okPair_spec h6 ht1 hr2
            obtain ⟨tx2, n2, hx2, t2, hh2, e3, ht2, H2, hr4⟩ := xis_ok hF h5 ht1 H1 hr3
            have hl : l = [] := by simpa using h7
            subst hl
            simp only [opsA] at e3
            split at e3
            · rename_i t2' h2' e4
              simp only [hp, ho', e5, if_true]
              split at e3
              · rename_i t3' h3' e6
                cases e3
                exact ⟨tx2, n2, hx2, t2, hh2, e6, ht2, H2, hr4⟩
              · cases e3
            · cases e3
  | [], _ :: _, h, _, _, _, _, _, _, _, _, _, _ => by cases h
  | _ :: _, [], h, _, _, _, _, _, _, _, _, _, _ => by cases h

/-! ### code -/
def okC (N : Nat) : XC → ACode → Bool
  | .skip, .skip => true
  | .ops l, .ops m => okIs N l m
  | .draw l, .draw ops m => okSs N ops l m
  | .seq a b, .seq a' b' => okC N a a' && okC N b b'
  | .cond c a b, .cond c' a' b' => okO c c' && okC N a a' && okC N b b'
  | .block i a, .block i' a' => Nat.beq i i' && okC N a a'
  | .loop a, .loop a' => okC N a a'
  | .exit i, .exit i' => Nat.beq i i'
  | .ret, .ret => true
  | .bad, _ => true
  | _, _ => false

def kOf (k : KT) (ke : Nat → KT) (kr : KT) : AExit → KT
  | .norm => k
  | .exit i => ke i
  | .ret => kr

def OutC (res : Option (AExit × VT × H)) (k : KT) (ke : Nat → KT) (kr : KT) (r : XV) : Prop :=
  ∃ e tx' n' hx' t' h', res = some (e, t', h') ∧ TX tx' t' ∧ HX n' hx' h' ∧ kOf k ke kr e tx' n' hx' = some r

theorem OutT.norm {res : Option (VT × H)} {k : KT} {ke : Nat → KT} {kr : KT} {r : XV} (h : OutT res k r) : OutC (norm res) k ke kr r := by
  obtain ⟨tx', n', hx', t', h', e1, e2, e3, e4⟩ := h
  exact ⟨.norm, tx', n', hx', t', h', by rw [e1]; rfl, e2, e3, e4⟩

def CodeOk (F : XF) (FA : FF) (N m : Nat) (c : CT) (a : VT → H → Option (AExit × VT × H)) : Prop :=
  ∀ {tx : Tm} {t : VT} {n : Pb} {hx : Hp} {h : H} {k : KT} {ke : Nat → KT} {kr : KT} {r : XV}, TX tx t → HX n hx h → c m F tx n hx k ke kr = some r → OutC (a t h) k ke kr r

theorem xloop_ok {F : XF} {FA : FF} {N m : Nat} {c : CT} {a : VT → H → Option (AExit × VT × H)} (hc : CodeOk F FA N m c a) : ∀ (f : Nat) {tx : Tm} {t : VT} {n : Pb} {hx : Hp} {h : H} {k : KT} {ke : Nat → KT} {kr : KT} {r : XV},
    TX tx t → HX n hx h → xloop f c m F tx n hx ke kr = some r → OutC (loopN a f t h) k ke kr r
  | 0, tx, t, n, hx, h, k, ke, kr, r, ht, H0, hr => by cases hr
  | f + 1, tx, t, n, hx, h, k, ke, kr, r, ht, H0, hr => by
    obtain ⟨e, tx1, n1, hx1, t1, h1, e1, ht1, H1, hr1⟩ := hc ht H0 (show c m F tx n hx (fun t n h => xloop f c m F t n h ke kr) ke kr = some r from hr)
    simp only [loopN, e1]
    cases e with
    | norm => exact xloop_ok (F := F) (FA := FA) (N := N) hc f ht1 H1 hr1
    | exit i => exact ⟨.exit i, tx1, n1, hx1, t1, h1, rfl, ht1, H1, hr1⟩
    | ret => exact ⟨.ret, tx1, n1, hx1, t1, h1, rfl, ht1, H1, hr1⟩

theorem xc_ok {F : XF} {FA : FF} (hF : FOK F FA) {N m : Nat} : ∀ {c : XC} {a : ACode}, okC N c a = true → CodeOk F FA N m (xc c) (codeA FA N m a) := by
  intro c
  induction c with
  | skip =>
    intro a hk tx t n hx h k ke kr r ht H0 hr
    cases a <;> first | (cases hk; done) | skip
    exact ⟨.norm, tx, n, hx, t, h, rfl, ht, H0, hr⟩
  | ops l =>
    intro a hk tx t n hx h k ke kr r ht H0 hr
    cases a <;> first | (cases hk; done) | skip
    exact (xis_ok hF hk ht H0 hr).norm
  | draw l =>
    intro a hk tx t n hx h k ke kr r ht H0 hr
    cases a <;> first | (cases hk; done) | skip
    exact (xst_ok hF hk ht H0 hr).norm
  | seq x y ihx ihy =>
    intro a hk tx t n hx h k ke kr r ht H0 hr
    cases a <;> first | (cases hk; done) | skip
    rename_i x' y'
    simp only [okC, Bool.and_eq_true] at hk
    obtain ⟨e, tx1, n1, hx1, t1, h1, e1, ht1, H1, hr1⟩ := ihx hk.1 ht H0 (show xc x m F tx n hx (fun t n h => xc y m F t n h k ke kr) ke kr = some r from hr)
    simp only [codeA, e1]
    cases e with
    | norm => exact ihy hk.2 ht1 H1 hr1
    | exit i => exact ⟨.exit i, tx1, n1, hx1, t1, h1, rfl, ht1, H1, hr1⟩
    | ret => exact ⟨.ret, tx1, n1, hx1, t1, h1, rfl, ht1, H1, hr1⟩
  | cond c x y ihx ihy =>
    intro a hk tx t n hx h k ke kr r ht H0 hr
    cases a <;> first | (cases hk; done) | skip
    rename_i c' x' y'
    simp only [okC, Bool.and_eq_true] at hk
    have hr' : xcond (xo c tx) (xc x) (xc y) m F tx n hx k ke kr = some r := hr
    have hcv := okO_spec hk.1.1 ht
    cases hc : xo c tx <;> rw [hc] at hr' <;> first | (cases hr'; done) | skip
    rename_i b
    rw [hc] at hcv
    simp only [codeA, ← hcv, toV]
    have hr2 : Bool.rec (motive := fun _ => R) (xc y m F tx n hx k ke kr) (xc x m F tx n hx k ke kr) b = some r := hr'
    cases b with
    | true => exact ihx hk.1.2 ht H0 hr2
    | false => exact ihy hk.2 ht H0 hr2
  | block id x ihx =>
    intro a hk tx t n hx h k ke kr r ht H0 hr
    cases a <;> first | (cases hk; done) | skip
    rename_i id' x'
    simp only [okC, Bool.and_eq_true, beq_iff] at hk
    obtain ⟨rfl, hk⟩ := hk
    obtain ⟨e, tx1, n1, hx1, t1, h1, e1, ht1, H1, hr1⟩ := ihx hk ht H0 (show xc x m F tx n hx k (fun i t n h => Bool.rec (ke i t n h) (k t n h) (Nat.beq i id)) kr = some r from hr)
    simp only [codeA, e1]
    cases e with
    | norm => exact ⟨.norm, tx1, n1, hx1, t1, h1, rfl, ht1, H1, hr1⟩
    | exit i =>
      simp only []
      rcases boolrec_cases (show Bool.rec (motive := fun _ => R) (ke i tx1 n1 hx1) (k tx1 n1 hx1) (Nat.beq i id) = some r from hr1) with ⟨h2, h3⟩ | ⟨h2, h3⟩
      · rw [if_neg (fun e => by rw [beq_iff.2 e] at h2; cases h2)]
        exact ⟨.exit i, tx1, n1, hx1, t1, h1, rfl, ht1, H1, h3⟩
      · rw [if_pos (beq_iff.1 h2)]
        exact ⟨.norm, tx1, n1, hx1, t1, h1, rfl, ht1, H1, h3⟩
    | ret => exact ⟨.ret, tx1, n1, hx1, t1, h1, rfl, ht1, H1, hr1⟩
  | loop x ihx =>
    intro a hk tx t n hx h k ke kr r ht H0 hr
    cases a <;> first | (cases hk; done) | skip
    rename_i x'
    have hk' : okC N x x' = true := hk
    simp only [codeA]
    exact xloop_ok (F := F) (FA := FA) (N := N) (ihx hk') m ht H0 (show xloop m (xc x) m F tx n hx ke kr = some r from hr)
  | exit i =>
    intro a hk tx t n hx h k ke kr r ht H0 hr
    cases a <;> first | (cases hk; done) | skip
    simp only [okC, beq_iff] at hk
    subst hk
    exact ⟨.exit i, tx, n, hx, t, h, rfl, ht, H0, hr⟩
  | ret =>
    intro a hk tx t n hx h k ke kr r ht H0 hr
    cases a <;> first | (cases hk; done) | skip
    exact ⟨.ret, tx, n, hx, t, h, rfl, ht, H0, hr⟩
  | bad =>
    intro a hk tx t n hx h k ke kr r ht H0 hr
    cases hr

/-! ### results -/
def okR : XR → ARes → Bool
  | .tmp p, .tmp i => Nat.beq (np p) i
  | .cell1 p, .cell1 i => Nat.beq (np p) i
  | .cellN c p, .cellN c' i => Nat.beq c c' && Nat.beq (np p) i
  | _, _ => false
def okRs : List XR → List ARes → Bool
  | [], [] => true
  | x :: l, y :: m => okR x y && okRs l m
  | _, _ => false

theorem xres1_ok {x : XR} {a : ARes} (hk : okR x a = true) {tx : Tm} {t : VT} (ht : TX tx t) {n : Pb} {hx : Hp} {h : H} (H0 : HX n hx h) {k : XV → R} {r : XV} (hr : xres1 x tx n hx k = some r) : ∃ v, resA t h a = some (toV v) ∧ k v = some r := by
  cases x <;> cases a <;> first | (cases hk; done) | skip
  · rename_i p i
    simp only [okR, beq_iff] at hk; subst hk
    exact ⟨_, by simp only [resA, ← ht p], hr⟩
  · rename_i p i
    simp only [okR, beq_iff] at hk; subst hk
    obtain ⟨v, h1, h2⟩ := xload1_spec H0 (show xload1 (tget p tx) n hx (fun v _ _ => k v) = some r from hr)
    exact ⟨v, by simp only [resA, ← ht p, h1], h2⟩
  · rename_i c p c' i
    simp only [okR, Bool.and_eq_true, beq_iff] at hk
    obtain ⟨rfl, rfl⟩ := hk
    obtain ⟨v, h1, h2⟩ := xloadN_spec H0 (show xloadN (tget p tx) c n hx (fun v _ _ => k v) = some r from hr)
    exact ⟨v, by simp only [resA, ← ht p, h1], h2⟩

theorem xresL_ok : ∀ {l : List XR} {m : List ARes}, okRs l m = true → ∀ {tx : Tm} {t : VT} {n : Pb} {hx : Hp} {h : H} {k : XV → R} {r : XV}, TX tx t → HX n hx h → xresL l tx n hx k = some r → ∃ v, resList t h m = some (toL v) ∧ k v = some r
  | [], [], _, tx, t, n, hx, h, k, r, ht, H0, hr => ⟨.nil, by simp only [resList, toL], hr⟩
  | x :: l, y :: m, hk, tx, t, n, hx, h, k, r, ht, H0, hr => by
    simp only [okRs, Bool.and_eq_true] at hk
    obtain ⟨v, h1, h2⟩ := xres1_ok hk.1 ht H0 (show xres1 x tx n hx (fun v => xresL l tx n hx (fun l => k (.cons v l))) = some r from hr)
    obtain ⟨vs, h3, h4⟩ := xresL_ok hk.2 ht H0 h2
    exact ⟨.cons v vs, by simp only [resList, h1, h3, toL], h4⟩
  | [], _ :: _, h, _, _, _, _, _, _, _, _, _, _ => by cases h
  | _ :: _, [], h, _, _, _, _, _, _, _, _, _, _ => by cases h

theorem xres_ok {l : List XR} {m : List ARes} (hk : okRs l m = true) {tx : Tm} {t : VT} {n : Pb} {hx : Hp} {h : H} {k : XV → R} {r : XV} (ht : TX tx t) (H0 : HX n hx h) (hr : xres l tx n hx k = some r) : ∃ v, resultsA t h m = some (toV v) ∧ k v = some r := by
  cases l with
  | nil =>
    cases m with
    | cons _ _ => cases hk
    | nil => exact ⟨.tu .nil, by simp only [resultsA, resList, toV, toL], hr⟩
  | cons x l =>
    cases m with
    | nil => cases hk
    | cons y m =>
      cases l with
      | nil =>
        cases m with
        | cons _ _ => simp only [okRs, Bool.and_eq_true] at hk; cases hk.2
        | nil =>
          simp only [okRs, Bool.and_eq_true] at hk
          obtain ⟨v, h1, h2⟩ := xres1_ok hk.1 ht H0 (show xres1 x tx n hx k = some r from hr)
          exact ⟨v, by simp only [resultsA, resList, h1], h2⟩
      | cons x2 l2 =>
        cases m with
        | nil => simp only [okRs, Bool.and_eq_true] at hk; cases hk.2
        | cons y2 m2 =>
          obtain ⟨v, h1, h2⟩ := xresL_ok hk ht H0 (show xresL (x :: x2 :: l2) tx n hx (fun v => k (.tu v)) = some r from hr)
          refine ⟨.tu v, ?_, h2⟩
          have hlen : 2 ≤ (toL v).length := by
            simp only [resList] at h1
            repeat' split at h1
            all_goals first | (cases h1; done) | skip
            simp only [Option.some.injEq] at h1
            rw [← h1]
            simp
            rename_i h5 h6
            split at h6
            · cases h6; simp
            · cases h6
          unfold resultsA
          rw [h1]
          generalize hv : toL v = vs at hlen
          match vs, hlen with
          | a :: b :: c, _ => simp only [toV, hv]

/-! ### parameters -/
def okPar : List Pt → Nat → Bool
  | [], _ => true
  | p :: l, i => Nat.beq (np p) i && okPar l (i + 1)

theorem initT_getX : ∀ (l : List Value) (k m : Nat), (initT l k).get m = if m < k then undef else (l[m - k]?).getD undef
  | [], k, m => by simp [initT, VT.get]
  | v :: l, k, m => by
    simp only [initT, VT.get_set, initT_getX l (k + 1) m]
    by_cases h1 : m = k
    · subst h1; simp
    · rw [if_neg h1]
      by_cases h2 : m < k
      · rw [if_pos (by omega), if_pos h2]
      · rw [if_neg (by omega), if_neg h2]
        obtain ⟨j, rfl⟩ : ∃ j, m = k + 1 + j := ⟨m - (k + 1), by omega⟩
        rw [show k + 1 + j - (k + 1) = j by omega, show k + 1 + j - k = j + 1 by omega]
        simp

theorem xend_spec {a : XV} {t : Tm} {k : Tm → R} {r : XV} (h : xend a t k = some r) : a = .nil ∧ k t = some r := by
  cases a <;> first | (cases h; done) | skip
  exact ⟨rfl, h⟩

/-- What stands in the temporaries while the parameters come in: those behind i that are in. -/
theorem xpar_ok : ∀ (l : List Pt) (i : Nat), okPar l i = true → ∀ {a : XV} {tx : Tm} {k : Tm → R} {r : XV}, xpar l a tx k = some r →
    (∀ p, i ≤ np p → toV (tget p tx) = undef) →
    ∃ tx', k tx' = some r ∧ (toL a).length ≤ l.length ∧ (∀ p, np p < i → tget p tx' = tget p tx) ∧ (∀ p, i ≤ np p → toV (tget p tx') = ((toL a)[np p - i]?).getD undef)
  | [], i, _, a, tx, k, r, hr, hu => by
    obtain ⟨rfl, h2⟩ := xend_spec (show xend a tx k = some r from hr)
    exact ⟨tx, h2, by simp [toL], fun _ _ => rfl, fun p hp => by simp [toL, hu p hp]⟩
  | q :: l, i, hk, a, tx, k, r, hr, hu => by
    simp only [okPar, Bool.and_eq_true, beq_iff] at hk
    obtain ⟨rfl, hk⟩ := hk
    have hq : ∀ p : Pt, np q + 1 ≤ np p → p ≠ q := fun p hp e => by subst e; omega
    obtain ⟨tx', h1, h2, h3, h4⟩ := xpar_ok l (np q + 1) hk (show xpar l (ltl a) (tset q (lhd a) tx) k = some r from hr) (fun p hp => by
      rw [tget_tset, if_neg (hq p hp)]; exact hu p (by omega))
    refine ⟨tx', h1, ?_, fun p hp => ?_, fun p hp => ?_⟩
    · cases a <;> first
        | (simp only [toL, List.length_nil, List.length_cons]; omega)
        | skip
      rename_i x y
      have h2' : (toL y).length ≤ l.length := h2
      simp only [toL, List.length_cons]; omega
    · rw [h3 p (by omega), tget_tset, if_neg (by rintro rfl; omega)]
    · by_cases e : p = q
      · subst e
        rw [h3 p (by omega), tget_tset, if_pos rfl]
        cases a <;> first
          | (simp only [toL, List.getElem?_nil, Option.getD_none]; rfl)
          | skip
        rename_i x y
        show toV x = _
        simp [toL]
      · have : np q ≠ np p := fun h => e (np_inj h).symm
        rw [h4 p (by omega)]
        cases a <;> first
          | (simp only [toL, List.getElem?_nil, Option.getD_none]; done)
          | (show ((toL .nil)[np p - (np q + 1)]?).getD undef = _; simp only [toL, List.getElem?_nil]; done)
          | skip
        rename_i x y
        show ((toL y)[np p - (np q + 1)]?).getD undef = _
        obtain ⟨j, hj⟩ : ∃ j, np p = np q + 1 + j := ⟨np p - (np q + 1), by omega⟩
        rw [hj, show np q + 1 + j - (np q + 1) = j by omega, show np q + 1 + j - np q = j + 1 by omega]
        simp [toL]

/-! ### calls -/
/-- Is the quick function the abstract one? -/
def okF (x : XFn) (a : AFunc) : Bool := okPar x.par 0 && Nat.ble x.par.length a.n && okC a.n x.body a.body && okRs x.res a.results

theorem xfn_ok {tab : FuncId → Option AFunc} {ex : XF} {ea : FF} {m d f : Nat} {F : XF} (ih : FOK F (callA tab ea m d)) {af : AFunc} {x : XFn} (h1 : tab f = some af) (h2 : okF x af = true)
    {a : XV} {n : Pb} {hx : Hp} {k : K} {r : XV} (hr' : xfn (some x) ex f m F a n hx k = some r) {h : H} (H0 : HX n hx h) : OutX (callA tab ea m (d + 1) f (toL a) h) k r := by
  simp only [okF, Bool.and_eq_true, ble_iff] at h2
  obtain ⟨⟨⟨h3, h4⟩, h5⟩, h6⟩ := h2
  obtain ⟨p, b, rs⟩ := x
  have hr2 : xpar p a t0 (fun t => xc b m F t n hx (fun t n h => xres rs t n h (fun v => k v n h)) (fun _ _ _ _ => none) (fun t n h => xres rs t n h (fun v => k v n h))) = some r := hr'
  obtain ⟨tx, e1, e2, e3, e4⟩ := xpar_ok p 0 h3 hr2 (fun q _ => by simp only [tget, t0, sel_all, toV])
  have hT : TX tx (initT (toL a) 0) := by
    intro q
    rw [e4 q (Nat.zero_le _), initT_getX]
    simp
  obtain ⟨e, tx1, n1, hx1, t1, hh1, d1, d2, d3, d4⟩ := xc_ok ih h5 hT H0 e1
  have h4' : p.length ≤ af.n := h4
  have hlen : (toL a).length ≤ af.n := by omega
  simp only [callA, h1]
  rw [if_pos hlen, d1]
  cases e with
  | exit i => cases d4
  | norm =>
    obtain ⟨v, g1, g2⟩ := xres_ok h6 d2 d3 d4
    exact ⟨v, n1, hx1, hh1, by simp only [g1], d3, g2⟩
  | ret =>
    obtain ⟨v, g1, g2⟩ := xres_ok h6 d2 d3 d4
    exact ⟨v, n1, hx1, hh1, by simp only [g1], d3, g2⟩

theorem xcall_ok {tabx : XT} {tab : FuncId → Option AFunc} {ex : XF} {ea : FF} {m : Nat}
    (htab : ∀ f, match tabx.find f with
      | some x => ∃ a, tab f = some a ∧ okF x a = true
      | none => tab f = none) (hex : FOK ex ea) : ∀ k, FOK (xcall tabx ex m k) (callA tab ea m k)
  | 0 => by intro f a n hx k r hr; cases hr
  | d + 1 => by
    have ih := xcall_ok (m := m) htab hex d
    intro f a n hx k r hr h H0
    have hr' : xfn (tabx.find f) ex f m (xcall tabx ex m d) a n hx k = some r := hr
    have ht := htab f
    cases hf : tabx.find f with
    | none =>
      rw [hf] at ht hr'
      simp only at ht
      simp only [callA, ht]
      exact hex f a n hx k r hr' h H0
    | some x =>
      rw [hf] at ht hr'
      obtain ⟨af, h1, h2⟩ := ht
      exact xfn_ok ih h1 h2 hr' H0

end
end Go.Abs
