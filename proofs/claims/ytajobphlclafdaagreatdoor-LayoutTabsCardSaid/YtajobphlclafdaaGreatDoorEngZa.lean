import Derived.Test.YtajobphlclafdaaGreatDoorEngZ
set_option linter.unusedVariables false
set_option linter.unusedSimpArgs false
/-! The quick machine's operations on values. -/
namespace Go.Abs
set_option linter.unusedVariables false
noncomputable section
section
variable {n : Pb} {hx : Hp} {h : H} {r : XV}

theorem xnil_spec {x : XV} {k : K} (hk : xnil x n hx k = some r) : PureX (nilCheckA (toV x)) n hx k r := by
  cases x <;> first | (cases hk; done) | skip
  exact ⟨_, by simp only [toV, nilCheckA], hk⟩

theorem ofBin_spec {v : Option Value} {k : K} (hk : ofBin v n hx k = some r) : PureX v n hx k r := by
  unfold ofBin at hk
  split at hk
  · exact ⟨_, by simp only [toV], hk⟩
  · cases hk

theorem binX_spec {o : BinOp} {q : IntKind} {a b : Int} {k : K} (hk : binX o q a b n hx k = some r) : PureX (binI o q a b) n hx k r := by
  cases o
  case add => exact ⟨_, by simp only [toV, binI, inorm_eq, iadd_eq], hk⟩
  case sub => exact ⟨_, by simp only [toV, binI, inorm_eq, isub_eq], hk⟩
  case eql =>
    refine ⟨_, ?_, hk⟩
    simp only [toV, binI]
    congr 2
    rw [Bool.eq_iff_iff, ieq_iff]; simp
  case neq =>
    refine ⟨_, ?_, hk⟩
    simp only [toV, binI, bnot_eq]
    congr 2
    have : (a == b) = ieq a b := by rw [Bool.eq_iff_iff, ieq_iff]; simp
    show (!(a == b)) = _
    rw [this]
  case lss =>
    refine ⟨_, ?_, hk⟩
    simp only [toV, binI, bnot_eq]
    congr 2
    rw [Bool.eq_iff_iff]
    simp only [decide_eq_true_eq, Bool.not_eq_true', ← Bool.not_eq_true, ile_iff]; omega
  case leq =>
    refine ⟨_, ?_, hk⟩
    simp only [toV, binI]
    congr 2
    rw [Bool.eq_iff_iff, ile_iff]; simp
  case gtr =>
    refine ⟨_, ?_, hk⟩
    simp only [toV, binI, bnot_eq]
    congr 2
    rw [Bool.eq_iff_iff]
    simp only [decide_eq_true_eq, Bool.not_eq_true', ← Bool.not_eq_true, ile_iff]; omega
  case geq =>
    refine ⟨_, ?_, hk⟩
    simp only [toV, binI]
    congr 2
    rw [Bool.eq_iff_iff, ile_iff]; simp
  all_goals exact ofBin_spec hk

theorem isSh_eq (o : BinOp) : isSh o = isShift o := by cases o <;> rfl

theorem sbytes_append (l m l' m' : Nat) : sbytes (l + l') (scat l m m') = sbytes l m ++ sbytes l' m' := by
  have : ∀ {a b : ByteArray}, a.data.toList = b.data.toList → a = b := by
    rintro ⟨⟨a⟩⟩ ⟨⟨b⟩⟩ h; cases h; rfl
  apply this
  rw [ByteArray.data_append, Array.toList_append, sbytes_list, sbytes_list, sbytes_list, scat_bytes]

theorem binSX_spec {o : BinOp} {l m l' m' : Nat} {k : K} (hk : binSX o l m l' m' n hx k = some r) : PureX (binS o (sbytes l m) (sbytes l' m')) n hx k r := by
  cases o <;> first | (cases hk; done) | skip
  case add =>
    obtain ⟨h1, h2⟩ := boolrec_none hk
    have h1' : l + l' ≤ 9223372036854775807 := ble_iff.1 h1
    refine ⟨_, ?_, h2⟩
    simp only [toV, binS, sbytes_size]
    rw [if_neg]
    · show some (Value.string _) = some (Value.string (sbytes (l + l') (scat l m m')))
      rw [sbytes_append]
    · have : IntKind.i64.max = 9223372036854775807 := by decide
      rw [this]; omega
  case eql =>
    refine ⟨_, ?_, hk⟩
    simp only [toV, binS, sbytes_list]
    congr 2
    rw [Bool.eq_iff_iff, seq_iff]; simp
  case neq =>
    refine ⟨_, ?_, hk⟩
    simp only [toV, binS, sbytes_list, bnot_eq]
    congr 3
    rw [Bool.eq_iff_iff, seq_iff]; simp

theorem xbin_spec {x y : XV} {o : BinOp} {k : K} (hk : xbin x y o n hx k = some r) : PureX (bin o (toV x) (toV y)) n hx k r := by
  cases x <;> first | (cases hk; done) | skip
  · rename_i q a
    have h1 : bin2 y q a o n hx k = some r := hk
    cases y <;> first | (cases h1; done) | skip
    rename_i q' b
    obtain ⟨h2, h3⟩ := boolrec_none (show Bool.rec (motive := fun _ => R) none (binX o q a b n hx k) (bor (eqKd q q') (isSh o)) = some r from h1)
    rw [bor_iff, eqKd_iff, isSh_eq] at h2
    obtain ⟨vx, h4, h5⟩ := binX_spec h3
    refine ⟨vx, ?_, h5⟩
    simp only [toV, bin]
    rw [if_pos]
    · exact h4
    · simp only [Bool.or_eq_true, decide_eq_true_eq]; exact h2.symm
  · rename_i l m
    have h1 : bin2S y l m o n hx k = some r := hk
    cases y <;> first | (cases h1; done) | skip
    rename_i l' m'
    obtain ⟨vx, h4, h5⟩ := binSX_spec (show binSX o l m l' m' n hx k = some r from h1)
    refine ⟨vx, ?_, h5⟩
    simp only [toV, bin]
    exact h4

theorem xeqv_spec {x y : XV} {k : Bool → R} (hk : xeqv x y k = some r) : ∃ b, eqvA (toV x) (toV y) = some b ∧ k b = some r := by
  cases x <;> first | (cases hk; done) | skip
  case b a =>
    have h1 : eqBB y a k = some r := hk
    cases y <;> first | (cases h1; done) | skip
    rename_i c
    refine ⟨_, ?_, h1⟩
    simp only [toV, eqvA, bnot_eq]
    cases a <;> cases c <;> rfl
  case np =>
    have h1 : nilP y k = some r := hk
    cases y <;> first | (cases h1; done) | (exact ⟨_, by simp only [toV, eqvA, Option.isNone], h1⟩)
  case p b o =>
    have h1 : eqPP y b o k = some r := hk
    cases y <;> first | (cases h1; done) | skip
    · exact ⟨_, by simp only [toV, eqvA, Option.isNone], h1⟩
    · rename_i b' o'
      obtain ⟨h2, h3⟩ := boolrec_none (show Bool.rec (motive := fun _ => R) none (k true) (band (eqP b b') (Nat.beq o o')) = some r from h1)
      rw [band_iff, eqP_iff, beq_iff] at h2
      obtain ⟨rfl, rfl⟩ := h2
      exact ⟨_, by simp [toV, eqvA], h3⟩
  case nsl =>
    have h1 : nilS y k = some r := hk
    cases y <;> first | (cases h1; done) | (exact ⟨_, by simp only [toV, eqvA, Option.isNone], h1⟩)
  case sl b o c e =>
    have h1 : eqSS y k = some r := hk
    cases y <;> first | (cases h1; done) | (exact ⟨_, by simp only [toV, eqvA, Option.isNone], h1⟩)
  case nf =>
    have h1 : nilF y k = some r := hk
    cases y <;> first | (cases h1; done) | (exact ⟨_, by simp only [toV, eqvA], h1⟩)
  case fn f xs cs =>
    cases y <;> first | (cases hk; done) | (exact ⟨_, by simp only [toV, eqvA], hk⟩)

theorem fitX_eq {e : EqTy} {x : XV} (hf : fitX e x = true) : eqFit e (toV x) = true := by
  cases e <;> cases x <;> first | (cases hf; done) | (simp only [toV, eqFit])

theorem xeq_spec {x y : XV} {e : EqTy} {ng : Bool} {k : K} (hk : xeq x y e ng n hx k = some r) : eqFit e (toV x) = true ∧ PureX (eqOp ng (toV x) (toV y)) n hx k r := by
  obtain ⟨h1, h2⟩ := boolrec_none (show Bool.rec (motive := fun _ => R) none (xeqv x y (fun b => k (.b (Bool.rec b (bnot b) ng)) n hx)) (fitX e x) = some r from hk)
  obtain ⟨b, h3, h4⟩ := xeqv_spec h2
  refine ⟨fitX_eq h1, _, ?_, h4⟩
  simp only [eqOp, h3, Option.map_some, toV]
  cases ng <;> simp [bnot_eq]

theorem xun_spec {x : XV} {o : UnOp} {k : K} (hk : xun x o n hx k = some r) : PureX (un o (toV x)) n hx k r := by
  cases x <;> first | (cases hk; done) | skip
  · rename_i c
    cases o <;> first | (cases hk; done) | skip
    exact ⟨_, by simp only [toV, un, bnot_eq], hk⟩
  · rename_i q a
    cases o <;> first | (cases hk; done) | skip
    exact ⟨_, by simp only [toV, un, inorm_eq, isub_eq], hk⟩

theorem xconv_spec {x : XV} {q : IntKind} {k : K} (hk : xconv x q n hx k = some r) : PureX (convIntA q (toV x)) n hx k r := by
  cases x <;> first | (cases hk; done) | skip
  exact ⟨_, by simp only [toV, convIntA, inorm_eq], hk⟩

/-! ### cutting -/
/-- A bound: absent is nil. -/
def bnd (x : XV) : Option Value := match x with
  | .nil => none
  | x => some (toV x)

theorem inat_spec {z : Int} {k : Nat → R} (hk : inat z k = some r) : 0 ≤ z ∧ k z.toNat = some r := by
  cases z with
  | ofNat m => exact ⟨by simp, hk⟩
  | negSucc m => cases hk

theorem xnat_spec {x : XV} {d : Nat} {k : Nat → R} (hk : xnat x d k = some r) : (bnd x = none ∧ k d = some r) ∨ ∃ q z, bnd x = some (.int q z) ∧ 0 ≤ z ∧ k z.toNat = some r := by
  cases x <;> first | (cases hk; done) | skip
  · rename_i q a
    obtain ⟨h1, h2⟩ := inat_spec (show inat a k = some r from hk)
    exact .inr ⟨q, a, by simp only [bnd, toV], h1, h2⟩
  · exact .inl ⟨rfl, hk⟩

theorem xcut_spec {m : Nat} {lo hi : XV} {k : Nat → Nat → R} (hk : xcut m lo hi k = some r) : ∃ l u, cutAt m (bnd lo) (bnd hi) = some (l, u) ∧ l ≤ u ∧ u ≤ m ∧ k l u = some r := by
  have key : ∀ u, xnat lo 0 (fun l => Bool.rec (motive := fun _ => R) none (k l u) (band (Nat.ble l u) (Nat.ble u m))) = some r → (bnd lo = none ∧ u ≤ m ∧ k 0 u = some r) ∨ ∃ q z, bnd lo = some (.int q z) ∧ 0 ≤ z ∧ z ≤ u ∧ u ≤ m ∧ k z.toNat u = some r := by
    intro u hu
    rcases xnat_spec hu with ⟨h1, h2⟩ | ⟨q, z, h1, h2, h3⟩
    · obtain ⟨h4, h5⟩ := boolrec_none h2
      rw [band_iff, ble_iff, ble_iff] at h4
      exact .inl ⟨h1, h4.2, h5⟩
    · obtain ⟨h4, h5⟩ := boolrec_none h3
      rw [band_iff, ble_iff, ble_iff] at h4
      exact .inr ⟨q, z, h1, h2, by omega, h4.2, h5⟩
  rcases xnat_spec (show xnat hi m (fun u => xnat lo 0 (fun l => Bool.rec (motive := fun _ => R) none (k l u) (band (Nat.ble l u) (Nat.ble u m)))) = some r from hk) with ⟨h1, h2⟩ | ⟨q, z, h1, h2, h3⟩
  · rcases key _ h2 with ⟨e1, e2, e3⟩ | ⟨q, z, e1, e2, e3, e4, e5⟩
    · exact ⟨0, m, by simp [cutAt, h1, e1], Nat.zero_le _, Nat.le_refl _, e3⟩
    · refine ⟨z.toNat, m, ?_, by omega, Nat.le_refl _, e5⟩
      simp only [cutAt, h1, e1]
      rw [if_pos ⟨e2, e3⟩]
  · rcases key _ h3 with ⟨e1, e2, e3⟩ | ⟨q', z', e1, e2, e3, e4, e5⟩
    · refine ⟨0, z.toNat, ?_, Nat.zero_le _, e2, e3⟩
      simp only [cutAt, h1, e1]
      rw [if_pos ⟨h2, by omega⟩]
    · refine ⟨z'.toNat, z.toNat, ?_, by omega, e4, e5⟩
      simp only [cutAt, h1, e1]
      rw [if_pos ⟨h2, by omega⟩, if_pos ⟨e2, by omega⟩]

theorem xcutStr_spec {x lo hi : XV} {k : K} (hk : xcutStr x lo hi n hx k = some r) : PureX (cutStr (toV x) (bnd lo) (bnd hi)) n hx k r := by
  cases x <;> first | (cases hk; done) | skip
  rename_i l m
  obtain ⟨a, b, h1, h2, h3, h4⟩ := xcut_spec (show xcut l lo hi (fun a b => k (.s (Nat.sub b a) (scut m a (Nat.sub b a))) n hx) = some r from hk)
  refine ⟨_, ?_, h4⟩
  simp only [toV, cutStr, sbytes_size, h1]
  congr 2
  have : ∀ {a b : ByteArray}, a.data.toList = b.data.toList → a = b := by
    rintro ⟨⟨a⟩⟩ ⟨⟨b⟩⟩ h; cases h; rfl
  apply this
  show _ = (sbytes (b - a) (scut m a (b - a))).data.toList
  rw [sbytes_list, scut_bytes m a b l h3 h2]
  simp [bext, sbytes_list]

theorem xcutSl_spec {x lo hi : XV} {z : Nat} {k : K} (hk : xcutSl x z lo hi n hx k = some r) : PureX (cutSl z (toV x) (bnd lo) (bnd hi)) n hx k r := by
  cases x <;> first | (cases hk; done) | skip
  · obtain ⟨a, b, h1, h2, h3, h4⟩ := xcut_spec (show xcut 0 lo hi (fun _ _ => k .nsl n hx) = some r from hk)
    refine ⟨_, ?_, h4⟩
    simp only [toV, cutSl, h1]
  · rename_i b o c e
    obtain ⟨h0, h1⟩ := boolrec_none (show Bool.rec (motive := fun _ => R) none (xcut c lo hi (fun l u => k (.sl b (Nat.add o (Nat.mul l z)) (Nat.sub u l) z) n hx)) (Nat.beq e z) = some r from hk)
    rw [beq_iff] at h0
    obtain ⟨l, u, h1, h2, h3, h4⟩ := xcut_spec h1
    refine ⟨_, ?_, h4⟩
    simp only [toV, cutSl, h1, h0]
    rfl

theorem xshift_spec {x : XV} {z : Nat} {k : K} (hk : xshift x z n hx k = some r) : PureX (shift z (toV x)) n hx k r := by
  cases x <;> first | (cases hk; done) | skip
  exact ⟨_, by simp only [toV, shift, ptrOf]; rfl, hk⟩

theorem lnth_spec : ∀ (i : Nat) (l : XV), i < (toL l).length → (toL l)[i]? = some (toV (lnth l i))
  | 0, .cons a b, h => by simp only [toL, List.getElem?_cons_zero]; rfl
  | i + 1, .cons a b, h => by
    simp only [toL, List.length_cons] at h
    simp only [toL, List.getElem?_cons_succ]
    exact lnth_spec i b (by omega)
  | _, .nil, h | _, .u, h | _, .sk, h | _, .b _, h | _, .i _ _, h | _, .s _ _, h | _, .np, h | _, .p _ _, h | _, .nsl, h | _, .sl .., h | _, .nm, h | _, .nf, h | _, .ni, h | _, .fn .., h | _, .ag _, h | _, .tu _, h => by simp [toL] at h

theorem ldrop_spec : ∀ (i : Nat) (l : XV), toL (ldrop i l) = (toL l).drop i
  | 0, l => by simp only [List.drop_zero]; rfl
  | i + 1, .cons a b => by simp only [toL, List.drop_succ_cons]; exact ldrop_spec i b
  | i + 1, .nil | i + 1, .u | i + 1, .sk | i + 1, .b _ | i + 1, .i _ _ | i + 1, .s _ _ | i + 1, .np | i + 1, .p _ _ | i + 1, .nsl | i + 1, .sl .. | i + 1, .nm | i + 1, .nf | i + 1, .ni | i + 1, .fn .. | i + 1, .ag _ | i + 1, .tu _ => by
    have := ldrop_spec i .nil
    simp only [toL, List.drop_nil] at this ⊢
    exact this

theorem ltake_spec : ∀ (i : Nat) (l : XV), i ≤ (toL l).length → toL (ltake i l) = (toL l).take i
  | 0, l, _ => by simp only [List.take_zero]; exact toL.eq_2 _ (by intro a b h; cases h)
  | i + 1, .cons a b, h => by
    simp only [toL, List.length_cons] at h
    have : ltake (i + 1) (.cons a b) = .cons a (ltake i b) := rfl
    rw [this]
    simp only [toL, List.take_succ_cons]
    rw [ltake_spec i b (by omega)]
  | i + 1, .nil, h | i + 1, .u, h | i + 1, .sk, h | i + 1, .b _, h | i + 1, .i _ _, h | i + 1, .s _ _, h | i + 1, .np, h | i + 1, .p _ _, h | i + 1, .nsl, h | i + 1, .sl .., h | i + 1, .nm, h | i + 1, .nf, h | i + 1, .ni, h | i + 1, .fn .., h | i + 1, .ag _, h | i + 1, .tu _, h => by simp [toL] at h

theorem xf1_spec {x : XV} {z : Nat} {k : K} (hk : xf1 x z n hx k = some r) : PureX (part1 (toV x) z) n hx k r := by
  cases x <;> first | (cases hk; done) | skip
  rename_i l
  obtain ⟨h0, h1⟩ := boolrec_none (show Bool.rec (motive := fun _ => R) none (k (lnth l z) n hx) (Nat.ble (Nat.succ z) (llen l)) = some r from hk)
  rw [ble_iff, llen_spec] at h0
  exact ⟨_, by simp only [toV, part1]; exact lnth_spec z l (by omega), h1⟩

theorem xext_spec {x : XV} {z : Nat} {k : K} (hk : xext x z n hx k = some r) : PureX (extractA (toV x) z) n hx k r := by
  cases x <;> first | (cases hk; done) | skip
  rename_i l
  obtain ⟨h0, h1⟩ := boolrec_none (show Bool.rec (motive := fun _ => R) none (k (lnth l z) n hx) (Nat.ble (Nat.succ z) (llen l)) = some r from hk)
  rw [ble_iff, llen_spec] at h0
  exact ⟨_, by simp only [toV, extractA]; exact lnth_spec z l (by omega), h1⟩

theorem xfN_spec {x : XV} {z c : Nat} {k : K} (hk : xfN x z c n hx k = some r) : PureX (partN (toV x) z c) n hx k r := by
  cases x <;> first | (cases hk; done) | skip
  rename_i l
  obtain ⟨h0, h1⟩ := boolrec_none (show Bool.rec (motive := fun _ => R) none (k (.ag (ltake c (ldrop z l))) n hx) (Nat.ble (Nat.add z c) (llen l)) = some r from hk)
  rw [ble_iff, llen_spec] at h0
  have h0' : z + c ≤ (toL l).length := h0
  refine ⟨_, ?_, h1⟩
  simp only [toV, partN]
  rw [ltake_spec c _ (by rw [ldrop_spec]; simp; omega), ldrop_spec]

theorem xint_spec {x : XV} {k : Nat → R} (hk : xint x k = some r) : ∃ q z, toV x = .int q z ∧ 0 ≤ z ∧ k z.toNat = some r := by
  cases x <;> first | (cases hk; done) | skip
  rename_i q a
  obtain ⟨h1, h2⟩ := inat_spec (show inat a k = some r from hk)
  exact ⟨q, a, by simp only [toV], h1, h2⟩

theorem xidx_spec {x i : XV} {z : Nat} {k : K} (hk : xidx x i z n hx k = some r) : PureX (idxAddr z (toV x) (toV i)) n hx k r := by
  cases x <;> first | (cases hk; done) | skip
  rename_i b o c e
  obtain ⟨q, a, h1, h2, h3⟩ := xint_spec (show xint i (fun j => Bool.rec (motive := fun _ => R) none (k (.p b (Nat.add o (Nat.mul j z))) n hx) (band (Nat.ble (Nat.succ j) c) (Nat.beq e z))) = some r from hk)
  obtain ⟨h4, h5⟩ := boolrec_none h3
  rw [band_iff, ble_iff, beq_iff] at h4
  refine ⟨_, ?_, h5⟩
  simp only [toV, idxAddr, slOf, h1]
  rw [if_pos ⟨h2, by omega, h4.2⟩]
  rfl

theorem xidxA_spec {x i : XV} {len z : Nat} {k : K} (hk : xidxA x i len z n hx k = some r) : PureX (idxArrA len z (toV x) (toV i)) n hx k r := by
  cases x <;> first | (cases hk; done) | skip
  rename_i b o
  obtain ⟨q, a, h1, h2, h3⟩ := xint_spec (show xint i (fun j => Bool.rec (motive := fun _ => R) none (k (.p b (Nat.add o (Nat.mul j z))) n hx) (Nat.ble (Nat.succ j) len)) = some r from hk)
  obtain ⟨h4, h5⟩ := boolrec_none h3
  rw [ble_iff] at h4
  refine ⟨_, ?_, h5⟩
  simp only [toV, idxArrA, ptrOf, h1]
  rw [if_pos ⟨h2, by omega⟩]
  rfl

theorem u8_nat (m j : Nat) : ((UInt8.ofNat (sbyte m j)).toNat : Int) = (sbyte m j : Nat) := by
  rw [UInt8.toNat_ofNat', Nat.mod_eq_of_lt (sbyte_lt _ _)]

theorem xidxS_spec {x i : XV} {k : K} (hk : xidxS x i n hx k = some r) : PureX (idxStr (toV x) (toV i)) n hx k r := by
  cases x <;> first | (cases hk; done) | skip
  rename_i l m
  obtain ⟨q, a, h1, h2, h3⟩ := xint_spec (show xint i (fun j => Bool.rec (motive := fun _ => R) none (k (.i .u8 (.ofNat (sbyte m j))) n hx) (Nat.ble (Nat.succ j) l)) = some r from hk)
  obtain ⟨h4, h5⟩ := boolrec_none h3
  rw [ble_iff] at h4
  refine ⟨_, ?_, h5⟩
  simp only [toV, idxStr, h1, sbytes_list]
  rw [if_pos h2, sbytes'_get (by omega)]
  simp only [u8_nat]
  rfl

theorem xlen_spec (H0 : HX n hx h) {x : XV} {y : LenTy} {k : K} (hk : xlen x y n hx k = some r) : lenFit y (toV x) = true ∧ PureX (lenA h (toV x)) n hx k r := by
  cases x <;> first | (cases hk; done) | skip
  · cases y <;> first | (cases hk; done) | skip
    exact ⟨by simp only [toV, lenFit], _, by simp only [toV, lenA, sbytes_size]; rfl, hk⟩
  · cases y <;> first | (cases hk; done) | skip
    exact ⟨by simp only [toV, lenFit], _, by simp only [toV, lenA]; rfl, hk⟩
  · cases y <;> first | (cases hk; done) | skip
    exact ⟨by simp only [toV, lenFit], _, by simp only [toV, lenA]; rfl, hk⟩

theorem xmm_spec {x y : XV} {mx : Bool} {k : K} (hk : xmm x y mx n hx k = some r) : PureX (minmaxA mx (toV x) (toV y)) n hx k r := by
  cases x <;> first | (cases hk; done) | skip
  cases y <;> first | (cases hk; done) | skip
  rename_i q a q' b
  refine ⟨_, ?_, hk⟩
  simp only [toV, minmaxA]
  congr 2
  cases mx
  · show (if b < a then b else a) = Bool.rec (motive := fun _ => Int) a b (bnot (ile a b))
    cases h1 : ile a b with
    | true => rw [ile_iff] at h1; rw [if_neg (by omega)]; rfl
    | false =>
      have : ¬ a ≤ b := fun hh => by rw [(ile_iff a b).2 hh] at h1; cases h1
      rw [if_pos (by omega)]; rfl
  · show (if b > a then b else a) = Bool.rec (motive := fun _ => Int) a b (bnot (ile b a))
    cases h1 : ile b a with
    | true => rw [ile_iff] at h1; rw [if_neg (by omega)]; rfl
    | false =>
      have : ¬ b ≤ a := fun hh => by rw [(ile_iff b a).2 hh] at h1; cases h1
      rw [if_pos (by omega)]; rfl

end
end
end Go.Abs
