import Derived.Test.YtajobphlclafdaaGreatDoorEngZc
set_option linter.unusedVariables false
set_option linter.unusedSimpArgs false
/-! The quick machine's operations, brought together. -/
namespace Go.Abs
set_option linter.unusedVariables false
noncomputable section

def eqTyB : EqTy → EqTy → Bool
  | .bool, .bool | .ptr, .ptr | .sl, .sl | .map, .map | .fn, .fn => true
  | _, _ => false
theorem eqTyB_spec {a b : EqTy} (h : eqTyB a b = true) : a = b := by cases a <;> cases b <;> first | rfl | cases h
def lenTyB : LenTy → LenTy → Bool
  | .str, .str | .sl, .sl | .map, .map => true
  | _, _ => false
theorem lenTyB_spec {a b : LenTy} (h : lenTyB a b = true) : a = b := by cases a <;> cases b <;> first | rfl | cases h

/-- Is the quick operation the abstract one? -/
def okOp : XOp → AOp → Bool
  | .mv x, .move y => okO x y
  | .pk c a b, .pick c' a' b' => okO c c' && okO a a' && okO b b'
  | .alloc (.ob len ce e .var), .alloc e' zs => Nat.beq e e' && Nat.beq len zs.length && okCe ce zs
  | .box e x, .box e' y => Nat.beq e e' && okO x y
  | .build m l, .build pl zs ps => lEq m zs && okP (fun i => pl[i]?) zs.length l ps
  | .buildSl e z c len ce l, .buildSl e' z' c' zs ps => Nat.beq e e' && Nat.beq z z' && Nat.beq c c' && Nat.beq len (c * z) && Nat.ble (c * z) 16777216 && Nat.beq zs.length z && Nat.ble 1 z && okCe ce (zeros zs c) && okP (fun i => some (i * z, z)) len l ps
  | .load1 x, .load1 y => okO x y
  | .loadN c x, .loadN c' y => Nat.beq c c' && okO x y
  | .store1 a x, .store c a' x' => Nat.beq c 1 && okO a a' && okO x x'
  | .storeN c a x, .store c' a' x' => Nat.beq c c' && okO a a' && okO x x'
  | .nilCheck x, .nilCheck y => okO x y
  | .bin o x y, .bin o' x' y' => decide (o = o') && okO x x' && okO y y'
  | .eq ng e x y, .eq ng' e' x' y' => (ng == ng') && eqTyB e e' && okO x x' && okO y y'
  | .un o x, .un o' x' => decide (o = o') && okO x x'
  | .convInt q x, .convInt q' x' => eqKd q q' && okO x x'
  | .makeFn f a c, .makeFunc (.func g) a' c' => Nat.beq f g && okOs a a' && okOs c c'
  | .cutStr x lo hi, .cutStr x' lo' hi' => okO x x' && okB lo lo' && okB hi hi'
  | .cutSl z x lo hi, .cutSl z' x' lo' hi' => Nat.beq z z' && okO x x' && okB lo lo' && okB hi hi'
  | .shift z x, .shift z' x' => Nat.beq z z' && okO x x'
  | .field1 z x, .field1 z' x' => Nat.beq z z' && okO x x'
  | .fieldN z c x, .fieldN z' c' x' => Nat.beq z z' && Nat.beq c c' && okO x x'
  | .idxAddr z x i, .idxAddr z' x' i' => Nat.beq z z' && okO x x' && okO i i'
  | .idxStr x i, .idxStr x' i' => okO x x' && okO i i'
  | .range x, .rangeStr x' => okO x x'
  | .next x, .nextStr x' => okO x x'
  | .extract x z, .extract x' z' => Nat.beq z z' && okO x x'
  | .len y x, .len y' x' => lenTyB y y' && okO x x'
  | .append e z u s x, .append e' z' u' s' x' => Nat.beq e e' && Nat.beq z z' && Nat.beq u u' && okO s s' && okO x x'
  | .copy z d x, .copy z' d' x' => Nat.beq z z' && okO d d' && okO x x'
  | .minmax mx x y, .minmax mx' x' y' => (mx == mx') && okO x x' && okO y y'
  | .makeSl e z u zs l c, .makeSl e' z' u' zs' l' c' => Nat.beq e e' && Nat.beq z z' && Nat.beq u u' && lEq zs zs' && Nat.beq zs'.length z && Nat.ble 1 z && okO l l' && okO c c'
  | .idxArr len z x i, .idxArr len' z' x' i' => Nat.beq len len' && Nat.beq z z' && okO x x' && okO i i'
  | .call f a, .call f' a' => okO f f' && okOs a a'
  | .bad, _ => true
  | _, _ => false

def FOK (F : XF) (FA : FF) : Prop := ∀ (f : Nat) (a : XV) (n : Pb) (hx : Hp) (k : K) (r : XV), F f a n hx k = some r → ∀ h, HX n hx h → OutX (FA f (toL a) h) k r

theorem xop_ok {F : XF} {FA : FF} (hF : FOK F FA) {o : XOp} {a : AOp} (hk : okOp o a = true) {tx : Tm} {t : VT} (ht : TX tx t) {n : Pb} {hx : Hp} {h : H} (H0 : HX n hx h) {k : K} {r : XV} (hr : xop o F tx n hx k = some r) : OutX (evalA FA t h a) k r := by
  have hpure : ∀ {v : Option Value}, PureX v n hx k r → OutX (pureO h v) k r := fun hp => hp.out H0
  unfold okOp at hk
  split at hk <;> first
    | (cases hk; done)
    | (simp only [Bool.and_eq_true, beq_iff, ble_iff, decide_eq_true_eq, beq_iff_eq, eqKd_iff] at hk)
    | skip
  -- mv
  · exact ⟨_, n, hx, h, by simp only [evalA, opA]; rw [← okO_spec hk ht], H0, hr⟩
  -- pk
  · obtain ⟨⟨h1, h2⟩, h3⟩ := hk
    have hr' : xpick (xo _ tx) (xo _ tx) (xo _ tx) n hx k = some r := hr
    simp only [evalA, opA, ← okO_spec h1 ht, ← okO_spec h2 ht, ← okO_spec h3 ht]
    rename_i c a b _ _ _
    cases hc : xo c tx <;> rw [hc] at hr' <;> first | (cases hr'; done) | skip
    rename_i b'
    refine ⟨_, n, hx, h, ?_, H0, hr'⟩
    simp only [toV]
    cases b' <;> rfl
  -- alloc
  · obtain ⟨⟨rfl, h2⟩, h3⟩ := hk
    obtain ⟨m, hx', h4, h5⟩ := newO_spec H0 (ORx.mk h2.symm (okCe_spec h3)) hr
    exact ⟨_, m, hx', _, by simp only [evalA, opA, toV, H0.next], h4, h5⟩
  -- box
  · obtain ⟨rfl, h2⟩ := hk
    have := xbox_spec H0 hr
    simp only [evalA, opA, ← okO_spec h2 ht]
    exact this
  -- build
  · obtain ⟨h1, h2⟩ := hk
    rename_i m l pl zs ps
    have hm := lEq_spec m zs h1
    obtain ⟨z', h3, h4⟩ := parts_spec ht h2 (by rw [hm]) hr
    refine ⟨_, n, hx, h, ?_, H0, h4⟩
    simp only [evalA, opA, buildA]
    rw [hm] at h3
    rw [h3]
    simp only [Option.map_some, pureO, toV]
  -- buildSl
  · obtain ⟨⟨⟨⟨⟨⟨⟨⟨rfl, rfl⟩, rfl⟩, rfl⟩, h5⟩, h6⟩, h7⟩, h8⟩, h9⟩ := hk
    obtain ⟨ce', z', h10, h11, h12, h13⟩ := partsO_spec ht h9 (okCe_spec h8) (by rw [zeros_length, h6]) hr
    obtain ⟨m, hx', h14, h15⟩ := newO_spec H0 (ORx.mk h12 h11) h13
    refine ⟨_, m, hx', _, ?_, h14, h15⟩
    simp only [evalA, opA, buildSlA]
    rw [if_pos (by exact ⟨h5, h6, h7⟩), h10]
    simp only [toV, H0.next]
  -- load1
  · simp only [evalA, opA, ← okO_spec hk ht]; exact hpure (xload1_spec H0 hr)
  · obtain ⟨rfl, h1⟩ := hk
    simp only [evalA, opA, ← okO_spec h1 ht]; exact hpure (xloadN_spec H0 hr)
  -- store
  · obtain ⟨⟨rfl, h1⟩, h2⟩ := hk
    have := xstore1_spec H0 hr
    simp only [evalA, opA, ← okO_spec h1 ht, ← okO_spec h2 ht]
    obtain ⟨vx, n', hx', h', e1, e2, e3⟩ := this
    refine ⟨vx, n', hx', h', ?_, e2, e3⟩
    rw [← e1]
    cases store h 1 (toV (xo _ tx)) (toV (xo _ tx)) <;> rfl
  · obtain ⟨⟨rfl, h1⟩, h2⟩ := hk
    have := xstoreN_spec H0 hr
    simp only [evalA, opA, ← okO_spec h1 ht, ← okO_spec h2 ht]
    obtain ⟨vx, n', hx', h', e1, e2, e3⟩ := this
    refine ⟨vx, n', hx', h', ?_, e2, e3⟩
    rw [← e1]
    cases store h _ (toV (xo _ tx)) (toV (xo _ tx)) <;> rfl
  · simp only [evalA, opA, ← okO_spec hk ht]; exact hpure (xnil_spec hr)
  · obtain ⟨⟨rfl, h1⟩, h2⟩ := hk
    simp only [evalA, opA, ← okO_spec h1 ht, ← okO_spec h2 ht]; exact hpure (xbin_spec hr)
  · obtain ⟨⟨⟨rfl, h0⟩, h1⟩, h2⟩ := hk
    obtain rfl := eqTyB_spec h0
    obtain ⟨h3, h4⟩ := xeq_spec hr
    simp only [evalA, opA, ← okO_spec h1 ht, ← okO_spec h2 ht, h3, if_true]; exact hpure h4
  · obtain ⟨rfl, h1⟩ := hk
    simp only [evalA, opA, ← okO_spec h1 ht]; exact hpure (xun_spec hr)
  · obtain ⟨rfl, h1⟩ := hk
    simp only [evalA, opA, ← okO_spec h1 ht]; exact hpure (xconv_spec hr)
  -- makeFn
  · obtain ⟨⟨rfl, h1⟩, h2⟩ := hk
    refine ⟨_, n, hx, h, ?_, H0, hr⟩
    simp only [evalA, opA, toV, okOs_spec h1 ht, okOs_spec h2 ht]
  · obtain ⟨⟨h1, h2⟩, h3⟩ := hk
    simp only [evalA, opA, ← okO_spec h1 ht, ← okB_spec h2 ht, ← okB_spec h3 ht]; exact hpure (xcutStr_spec hr)
  · obtain ⟨⟨⟨rfl, h1⟩, h2⟩, h3⟩ := hk
    simp only [evalA, opA, ← okO_spec h1 ht, ← okB_spec h2 ht, ← okB_spec h3 ht]; exact hpure (xcutSl_spec hr)
  · obtain ⟨rfl, h1⟩ := hk
    simp only [evalA, opA, ← okO_spec h1 ht]; exact hpure (xshift_spec hr)
  · obtain ⟨rfl, h1⟩ := hk
    simp only [evalA, opA, ← okO_spec h1 ht]; exact hpure (xf1_spec hr)
  · obtain ⟨⟨rfl, rfl⟩, h1⟩ := hk
    simp only [evalA, opA, ← okO_spec h1 ht]; exact hpure (xfN_spec hr)
  · obtain ⟨⟨rfl, h1⟩, h2⟩ := hk
    simp only [evalA, opA, ← okO_spec h1 ht, ← okO_spec h2 ht]; exact hpure (xidx_spec hr)
  · obtain ⟨h1, h2⟩ := hk
    simp only [evalA, opA, ← okO_spec h1 ht, ← okO_spec h2 ht]; exact hpure (xidxS_spec hr)
  · simp only [evalA, opA, ← okO_spec hk ht]; exact xrange_spec H0 hr
  · simp only [evalA, opA, ← okO_spec hk ht]; exact xnext_spec H0 hr
  · obtain ⟨rfl, h1⟩ := hk
    simp only [evalA, opA, ← okO_spec h1 ht]; exact hpure (xext_spec hr)
  · obtain ⟨h0, h1⟩ := hk
    obtain rfl := lenTyB_spec h0
    obtain ⟨h3, h4⟩ := xlen_spec H0 hr
    simp only [evalA, opA, ← okO_spec h1 ht, h3, if_true]; exact hpure h4
  · obtain ⟨⟨⟨⟨rfl, rfl⟩, rfl⟩, h1⟩, h2⟩ := hk
    simp only [evalA, opA, ← okO_spec h1 ht, ← okO_spec h2 ht]; exact xappend_spec H0 hr
  · obtain ⟨⟨rfl, h1⟩, h2⟩ := hk
    simp only [evalA, opA, ← okO_spec h1 ht, ← okO_spec h2 ht]; exact xcopy_spec H0 hr
  · obtain ⟨⟨rfl, h1⟩, h2⟩ := hk
    simp only [evalA, opA, ← okO_spec h1 ht, ← okO_spec h2 ht]; exact hpure (xmm_spec hr)
  · obtain ⟨⟨⟨⟨⟨⟨⟨rfl, rfl⟩, rfl⟩, h3⟩, h4⟩, h5⟩, h1⟩, h2⟩ := hk
    have hz := lEq_spec _ _ h3
    simp only [evalA, opA, ← okO_spec h1 ht, ← okO_spec h2 ht, ← hz]
    exact xmakeSl_spec H0 (by rw [hz]; exact h4) h5 hr
  · obtain ⟨⟨⟨rfl, rfl⟩, h1⟩, h2⟩ := hk
    simp only [evalA, opA, ← okO_spec h1 ht, ← okO_spec h2 ht]; exact hpure (xidxA_spec hr)
  -- call
  · obtain ⟨h1, h2⟩ := hk
    rename_i f a f' a'
    have hr' : xcl (xo f tx) F (xos a tx) n hx k = some r := hr
    cases hf : xo f tx <;> rw [hf] at hr' <;> first | (cases hr'; done) | skip
    rename_i g xs cs
    have hr2 : F g (lapp xs (lapp (xos a tx) cs)) n hx k = some r := hr'
    have := hF _ _ _ _ _ _ hr2 h H0
    simp only [evalA, ← okO_spec h1 ht, hf, toV]
    rw [lapp_spec, lapp_spec, okOs_spec h2 ht] at this
    simpa using this
  -- bad
  · cases hr

end
end Go.Abs
