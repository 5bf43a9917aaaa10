import Derived.Test.YtajobphlclafdaaGreatDoorEngZb
set_option linter.unusedVariables false
set_option linter.unusedSimpArgs false
/-! The quick machine's structs and slices; what a check of its code looks at. -/
namespace Go.Abs
set_option linter.unusedVariables false
noncomputable section
section
variable {n : Pb} {hx : Hp} {h : H} {r : XV}

theorem xvc_spec {x : XV} {k : XV → R} (hk : xvc x k = some r) : ∃ l, vcells (toV x) = some (toL l) ∧ k l = some r := by
  have hone : ∀ {y : XV}, xone y = true → k (.cons y .nil) = some r → ∃ l, vcells (toV y) = some (toL l) ∧ k l = some r := by
    intro y hy hk
    exact ⟨_, by rw [(xone_spec hy).2]; simp only [toL], hk⟩
  cases x <;> first | (cases hk; done) | (exact hone rfl hk) | skip
  rename_i l
  obtain ⟨h1, h2⟩ := boolrec_none (show Bool.rec (motive := fun _ => R) none (k l) (lones l) = some r from hk)
  exact ⟨l, by simp only [toV, vcells]; rw [if_pos (lones_spec h1)], h2⟩

theorem lput_spec : ∀ (i : Nat) (v l : XV), i < (toL l).length → toL (lput i v l) = (toL l).set i (toV v)
  | 0, v, .cons a b, h => by
    have : lput 0 v (.cons a b) = .cons v b := rfl
    rw [this]; simp only [toL, List.set_cons_zero]
  | i + 1, v, .cons a b, h => by
    simp only [toL, List.length_cons] at h
    have : lput (i + 1) v (.cons a b) = .cons a (lput i v b) := rfl
    rw [this]; simp only [toL, List.set_cons_succ]
    rw [lput_spec i v b (by omega)]
  | _, _, .nil, h | _, _, .u, h | _, _, .sk, h | _, _, .b _, h | _, _, .i _ _, h | _, _, .s _ _, h | _, _, .np, h | _, _, .p _ _, h | _, _, .nsl, h | _, _, .sl .., h | _, _, .nm, h | _, _, .nf, h | _, _, .ni, h | _, _, .fn .., h | _, _, .ag _, h | _, _, .tu _, h => by simp [toL] at h

theorem lputL_spec : ∀ (l : XV) (i : Nat) (m : XV), i + (toL l).length ≤ (toL m).length → toL (lputL l i m) = over (toL m) i (toL l)
  | .cons a b, i, m, h => by
    simp only [toL, List.length_cons] at h ⊢
    have h1 : toL (lput i a m) = (toL m).set i (toV a) := lput_spec i a m (by omega)
    have h2 := lputL_spec b (Nat.succ i) (lput i a m) (by rw [h1]; simp; omega)
    have : lputL (.cons a b) i m = lputL b (Nat.succ i) (lput i a m) := rfl
    rw [this, h2, h1, show i.succ = i + 1 from rfl, over_set (by omega) _ (by omega)]
  | .nil, i, m, h | .u, i, m, h | .sk, i, m, h | .b _, i, m, h | .i _ _, i, m, h | .s _ _, i, m, h | .np, i, m, h | .p _ _, i, m, h | .nsl, i, m, h | .sl .., i, m, h | .nm, i, m, h | .nf, i, m, h | .ni, i, m, h | .fn .., i, m, h | .ag _, i, m, h | .tu _, i, m, h => by
    simp only [toL]; rw [over_nil]; rfl

/-! ### checks of operands -/
mutual
def vEq : XV → Value → Bool
  | .b x, .bool y => x == y
  | .i k n, .int k' n' => band (eqKd k k') (ieq n n')
  | .s l n, .string s => (List.range l).map (fun i => sbyte n i) == s.data.toList.map UInt8.toNat
  | .np, .pointer none => true
  | .nsl, .slice none 0 0 => true
  | .nm, .map none => true
  | .nf, .nilFunc => true
  | .ni, .nilIface => true
  | .u, .tuple c => c.toList.isEmpty
  | .ag l, .agg c => lEq l c.toList
  | _, _ => false
def lEq : XV → List Value → Bool
  | .nil, [] => true
  | .cons a b, v :: vs => vEq a v && lEq b vs
  | _, _ => false
end

theorem bytes_eq {l m : Nat} {s : ByteArray} (h : (List.range l).map (fun i => sbyte m i) = s.data.toList.map UInt8.toNat) : sbytes l m = s := by
  have : ∀ {a b : ByteArray}, a.data.toList = b.data.toList → a = b := by
    rintro ⟨⟨a⟩⟩ ⟨⟨b⟩⟩ h; cases h; rfl
  apply this
  rw [sbytes_list]
  have h2 : (sbytes' l m).map UInt8.toNat = s.data.toList.map UInt8.toNat := by
    rw [← h, sbytes', List.map_map]
    apply List.map_congr_left
    intro i _
    simp only [Function.comp, UInt8.toNat_ofNat', Nat.mod_eq_of_lt (sbyte_lt _ _)]
  exact List.map_inj_right (f := UInt8.toNat) (fun a b h => UInt8.toNat_inj.1 h) |>.1 h2

mutual
theorem vEq_spec : ∀ (x : XV) (v : Value), vEq x v = true → toV x = v
  | x, v, h => by
    unfold vEq at h
    split at h
    · simp only [beq_iff_eq] at h; simp only [toV, h]
    · rw [band_iff, eqKd_iff, ieq_iff] at h; simp only [toV, h.1, h.2]
    · simp only [beq_iff_eq] at h; simp only [toV]; rw [bytes_eq h]
    · simp only [toV]
    · simp only [toV]
    · simp only [toV]
    · simp only [toV]
    · simp only [toV]
    · rename_i c
      simp only [List.isEmpty_iff] at h
      simp only [toV]
      show Value.tuple #[] = _
      congr 1
      exact (Array.ext' (by simpa using h)).symm
    · rename_i l c
      simp only [toV]
      rw [lEq_spec l c.toList h]
    · cases h
theorem lEq_spec : ∀ (x : XV) (l : List Value), lEq x l = true → toL x = l
  | x, l, h => by
    unfold lEq at h
    split at h
    · simp only [toL]
    · rename_i a b v vs
      simp only [Bool.and_eq_true] at h
      simp only [toL]
      rw [vEq_spec a v h.1, lEq_spec b vs h.2]
    · cases h
end

def okO : XO → Operand → Bool
  | .t p, .tmp i => Nat.beq (np p) i
  | .c v, .const c => flat c && vEq v c
  | .c (.p b o), .global g => Nat.beq (nb b) g && Nat.beq o 0 && Nat.ble (Nat.succ g) NG
  | .c (.fn f .nil .nil), .func g => Nat.beq f g
  | _, _ => false

theorem okO_spec {x : XO} {o : Operand} (hk : okO x o = true) {tx : Tm} {t : VT} (ht : TX tx t) : toV (xo x tx) = rho t o := by
  unfold okO at hk
  split at hk
  · rw [beq_iff] at hk
    subst hk
    exact ht _
  · rename_i v c
    simp only [Bool.and_eq_true] at hk
    simp only [rho]
    rw [if_pos hk.1]
    exact vEq_spec v c hk.2
  · rename_i b o g
    simp only [Bool.and_eq_true, beq_iff, ble_iff] at hk
    obtain ⟨⟨rfl, rfl⟩, h3⟩ := hk
    simp only [rho]
    rw [if_pos (Nat.lt_of_succ_le h3)]
    show toV (.p b 0) = _
    simp only [toV]
  · rename_i f g
    rw [beq_iff] at hk
    subst hk
    show toV (.fn f .nil .nil) = _
    simp only [toV, toL, rho]
  · cases hk

def okOs : List XO → List Operand → Bool
  | [], [] => true
  | x :: l, o :: m => okO x o && okOs l m
  | _, _ => false

theorem okOs_spec : ∀ {l : List XO} {m : List Operand}, okOs l m = true → ∀ {tx : Tm} {t : VT}, TX tx t → toL (xos l tx) = m.map (rho t)
  | [], [], _, tx, t, ht => by simp only [List.map_nil]; show toL .nil = _; simp only [toL]
  | x :: l, o :: m, hk, tx, t, ht => by
    simp only [okOs, Bool.and_eq_true] at hk
    show toL (.cons (xo x tx) (xos l tx)) = _
    simp only [toL, List.map_cons, okO_spec hk.1 ht, okOs_spec hk.2 ht]
  | [], _ :: _, h, _, _, _ => by cases h
  | _ :: _, [], h, _, _, _ => by cases h

def okB : XO → Option Operand → Bool
  | .no, none => true
  | .no, some _ => false
  | x, some o => okO x o
  | _, _ => false

theorem nonil_spec (x : XV) : toV (nonil x) = toV x ∧ nonil x ≠ .nil := by
  cases x <;> exact ⟨by first | rfl | (show toV .u = toV .nil; simp only [toV]), by intro h; cases h⟩

theorem bnd_some {x : XV} (h : x ≠ .nil) : bnd x = some (toV x) := by
  cases x <;> first | rfl | exact absurd rfl h

theorem okB_some {x : XO} {o : Operand} (hk : okB x (some o) = true) : okO x o = true ∧ ∀ tx, xob x tx = nonil (xo x tx) := by
  cases x
  · exact ⟨hk, fun _ => rfl⟩
  · exact ⟨hk, fun _ => rfl⟩
  · cases hk
theorem okB_none {x : XO} (hk : okB x none = true) : x = .no := by cases x <;> first | rfl | cases hk

theorem okB_spec {x : XO} {o : Option Operand} (hk : okB x o = true) {tx : Tm} {t : VT} (ht : TX tx t) : bnd (xob x tx) = o.map (rho t) := by
  cases o with
  | none => rw [okB_none hk]; rfl
  | some o =>
    obtain ⟨h0, h1⟩ := okB_some hk
    obtain ⟨h2, h3⟩ := nonil_spec (xo x tx)
    rw [Option.map_some, h1, bnd_some h3, h2, okO_spec h0 ht]

/-! ### cells of which the code is made -/
def okCe (t : Ce) (zs : List Value) : Bool := Nat.ble zs.length (cap t) && okCeF t zs 0
where okCeF (t : Ce) : List Value → Nat → Bool
  | [], _ => true
  | v :: vs, i => vEq (cget t i) v && okCeF t vs (i + 1)

theorem okCeF_spec {t : Ce} : ∀ (zs : List Value) (i : Nat), okCe.okCeF t zs i = true → ∀ j, (hj : j < zs.length) → toV (cget t (i + j)) = zs[j]
  | [], _, _, j, hj => by simp at hj
  | v :: vs, i, hk, j, hj => by
    simp only [okCe.okCeF, Bool.and_eq_true] at hk
    cases j with
    | zero => simpa using vEq_spec _ _ hk.1
    | succ j =>
      have := okCeF_spec vs (i + 1) hk.2 j (by simpa using hj)
      simp only [List.getElem_cons_succ]
      rw [← this]
      congr 2
      omega
theorem okCe_spec {t : Ce} {zs : List Value} (hk : okCe t zs = true) : CX t zs := by
  unfold okCe at hk
  simp only [Bool.and_eq_true, ble_iff] at hk
  refine ⟨hk.1, fun i hi => ?_⟩
  have := okCeF_spec zs 0 hk.2 i hi
  rw [Nat.zero_add] at this
  exact this

/-- The parts of a struct. len: its cells -/
def okP (pl : Nat → Option (Nat × Nat)) (len : Nat) : List XP → List (Nat × Operand) → Bool
  | [], [] => true
  | ⟨off, size, x⟩ :: l, (i, o) :: m => (match pl i with
      | some (a, b) => Nat.beq a off && Nat.beq b size && Nat.ble (a + b) len
      | none => false) && okO x o && okP pl len l m
  | _, _ => false

theorem parts_spec {pl : Nat → Option (Nat × Nat)} {len : Nat} {tx : Tm} {t : VT} (ht : TX tx t) : ∀ {l : List XP} {m : List (Nat × Operand)} {z : XV} {k : XV → R}, okP pl len l m = true → (toL z).length = len → parts l tx z k = some r →
    ∃ z', fillA pl (toL z) (m.map fun p => (p.1, rho t p.2)) = some (toL z') ∧ k z' = some r
  | [], [], z, k, _, _, hk => ⟨z, rfl, hk⟩
  | ⟨off, size, x⟩ :: l, (i, o) :: m, z, k, hp, hl, hk => by
    simp only [okP, Bool.and_eq_true] at hp
    obtain ⟨⟨h1, h2⟩, h3⟩ := hp
    cases hpl : pl i with
    | none => rw [hpl] at h1; cases h1
    | some q =>
      obtain ⟨a, b⟩ := q
      rw [hpl] at h1
      simp only [Bool.and_eq_true, beq_iff, ble_iff] at h1
      obtain ⟨⟨rfl, rfl⟩, h4⟩ := h1
      obtain ⟨ls, h5, h6⟩ := xvc_spec (show xvc (xo x tx) (fun q => Bool.rec (motive := fun _ => R) none (parts l tx (lputL q a z) k) (Nat.beq (llen q) b)) = some r from hk)
      obtain ⟨h7, h8⟩ := boolrec_none h6
      rw [beq_iff, llen_spec] at h7
      have h9 := lputL_spec ls a z (by omega)
      obtain ⟨z', h10, h11⟩ := parts_spec ht h3 (by rw [h9]; simp only [over, List.length_append, List.length_take, List.length_drop]; omega) h8
      refine ⟨z', ?_, h11⟩
      rw [h9] at h10
      simp only [List.map_cons, fillA, hpl, ← okO_spec h2 ht, h5]
      rw [if_pos ⟨h7, by omega⟩]
      exact h10
  | [], _ :: _, _, _, h, _, _ => by cases h
  | _ :: _, [], _, _, h, _, _ => by cases h

theorem partsO_spec {pl : Nat → Option (Nat × Nat)} {len : Nat} {tx : Tm} {t : VT} (ht : TX tx t) : ∀ {l : List XP} {m : List (Nat × Operand)} {ce : Ce} {z : List Value} {k : Ce → R}, okP pl len l m = true → CX ce z → z.length = len → partsO l tx ce k = some r →
    ∃ ce' z', fillA pl z (m.map fun p => (p.1, rho t p.2)) = some z' ∧ CX ce' z' ∧ z'.length = len ∧ k ce' = some r
  | [], [], ce, z, k, _, hc, hl, hk => ⟨ce, z, rfl, hc, hl, hk⟩
  | ⟨off, size, x⟩ :: l, (i, o) :: m, ce, z, k, hp, hc, hl, hk => by
    simp only [okP, Bool.and_eq_true] at hp
    obtain ⟨⟨h1, h2⟩, h3⟩ := hp
    cases hpl : pl i with
    | none => rw [hpl] at h1; cases h1
    | some q =>
      obtain ⟨a, b⟩ := q
      rw [hpl] at h1
      simp only [Bool.and_eq_true, beq_iff, ble_iff] at h1
      obtain ⟨⟨rfl, rfl⟩, h4⟩ := h1
      obtain ⟨ls, h5, h6⟩ := xvc_spec (show xvc (xo x tx) (fun q => Bool.rec (motive := fun _ => R) none (wrL q a ce (fun ce => partsO l tx ce k)) (Nat.beq (llen q) b)) = some r from hk)
      obtain ⟨h7, h8⟩ := boolrec_none h6
      rw [beq_iff, llen_spec] at h7
      obtain ⟨ce2, h9, h10⟩ := wrL_spec ls hc (by omega) h8
      obtain ⟨ce', z', h11, h12⟩ := partsO_spec ht h3 h10 (by simp only [over, List.length_append, List.length_take, List.length_drop]; omega) h9
      refine ⟨ce', z', ?_, h12⟩
      simp only [List.map_cons, fillA, hpl, ← okO_spec h2 ht, h5]
      rw [if_pos ⟨h7, by omega⟩]
      exact h11
  | [], _ :: _, _, _, _, h, _, _, _ => by cases h
  | _ :: _, [], _, _, _, h, _, _, _ => by cases h

theorem xi64_spec {x y : XV} (hk : xi64 x y = true) : ∃ a, toV x = .int .i64 a ∧ toV y = .int .i64 a := by
  cases x <;> first | (cases hk; done) | skip
  cases y <;> first | (cases hk; done) | skip
  rename_i q a q' b
  have h : band (eqKd q .i64) (band (eqKd q' .i64) (ieq a b)) = true := hk
  rw [band_iff, band_iff, eqKd_iff, eqKd_iff, ieq_iff] at h
  obtain ⟨rfl, rfl, rfl⟩ := h
  exact ⟨a, by simp only [toV], by simp only [toV]⟩

theorem xmakeSl_spec (H0 : HX n hx h) {l c : XV} {e z u : Nat} {zs : XV} {k : K} (hz : (toL zs).length = z) (hz0 : 0 < z) (hk : xmakeSl l c e z u zs n hx k = some r) : OutX (makeSlA e z u (toL zs) h (toV l) (toV c)) k r := by
  obtain ⟨h1, h2⟩ := boolrec_none (show Bool.rec (motive := fun _ => R) none (xint l (fun a => Bool.rec (motive := fun _ => R) none (ceIn (Nat.mul a z) (fun t => push (Nat.mul a z) (fun j => lnth zs (Nat.mod j z)) 0 0 t (fun t => newO (.sl n 0 a z) (.ob (Nat.mul a z) t e .var) n hx k))) (band (Nat.ble (Nat.mul a u) 1099511627776) (Nat.ble 1 u)))) (xi64 l c) = some r from hk)
  obtain ⟨a, h3, h4⟩ := xi64_spec h1
  obtain ⟨q, b, h5, h6, h7⟩ := xint_spec h2
  rw [h3] at h5
  cases h5
  obtain ⟨h8, h9⟩ := boolrec_none h7
  rw [band_iff, ble_iff, ble_iff] at h8
  obtain ⟨h10, h11⟩ := ceIn_spec h9
  obtain ⟨t', h12, h13, _, _⟩ := push_new _ h11 (CX.empty _) rfl (by omega)
  rw [List.nil_append] at h13
  have hzeros : gv (fun j => lnth zs (Nat.mod j z)) 0 (Nat.mul a.toNat z) = zeros (toL zs) a.toNat := by
    apply List.ext_getElem?
    intro i
    by_cases hi : i < a.toNat * z
    · rw [gv_get _ _ (Nat.mul a.toNat z) _ hi, zeros_get _ _ _ (by rw [hz]; exact hi), hz, Nat.zero_add]
      exact (lnth_spec _ zs (by rw [hz]; exact Nat.mod_lt _ hz0)).symm
    · rw [List.getElem?_eq_none (by rw [gv_length]; exact Nat.le_of_not_lt hi), List.getElem?_eq_none (by rw [zeros_length, hz]; omega)]
  rw [hzeros] at h13
  obtain ⟨m, hx', h14, h15⟩ := newO_spec H0 (a := .cells (zeros (toL zs) a.toNat) e .var) (ORx.mk (by rw [zeros_length, hz]; rfl) h13) h12
  refine ⟨_, m, hx', _, ?_, h14, h15⟩
  rw [h3, h4]
  simp only [makeSlA]
  rw [if_pos (by exact ⟨h6, trivial, h8.1, h8.2, hz, hz0⟩)]
  simp only [toV, H0.next]

end
end
end Go.Abs
