import Derived.Test.YtajobphlclafdaaGreatDoorEngZe
set_option linter.unusedVariables false
set_option linter.unusedSimpArgs false
/-! The quick machine's stages. -/
namespace Go.Abs
set_option linter.unusedVariables false
noncomputable section

theorem sbytes_beq {l m l' m' : Nat} (h : seq l m l' m' = true) : ((sbytes l m).data.toList == (sbytes l' m').data.toList) = true := by
  rw [sbytes_list, sbytes_list, beq_iff_eq]
  exact (seq_iff _ _ _ _).1 h

theorem xveq_spec {x y : XV} (h : xveq x y = true) : veq (toV x) (toV y) = true := by
  cases x <;> first | (cases h; done) | skip
  all_goals (cases y <;> first | (cases h; done) | skip)
  · rename_i a c
    have h' : Bool.rec (motive := fun _ => Bool) (bnot c) c a = true := h
    simp only [toV, veq]
    cases a <;> cases c <;> first | rfl | cases h'
  · rename_i q a q' c
    have h' : band (eqKd q q') (ieq a c) = true := h
    rw [band_iff, eqKd_iff, ieq_iff] at h'
    simp [toV, veq, h'.1, h'.2]
  · rename_i l m l' m'
    simp only [toV, veq]
    exact sbytes_beq h
  · simp only [toV, veq]
  · rename_i b o b' o'
    have h' : band (eqP b b') (Nat.beq o o') = true := h
    rw [band_iff, eqP_iff, beq_iff] at h'
    simp [toV, veq, h'.1, h'.2]
  · simp only [toV, veq]
  · rename_i b o c e b' o' c' e'
    have h' : band (eqP b b') (band (Nat.beq o o') (band (Nat.beq c c') (Nat.beq e e'))) = true := h
    rw [band_iff, band_iff, band_iff, eqP_iff, beq_iff, beq_iff, beq_iff] at h'
    obtain ⟨rfl, rfl, rfl, rfl⟩ := h'
    simp [toV, veq]
  · simp only [toV, veq]
  · simp only [toV, veq]

theorem xlveq_spec : ∀ {x y : XV}, xlveq x y = true → lveq (toL x) (toL y) = true
  | .cons a l, y, h => by
    cases y <;> first | (cases h; done) | skip
    rename_i a' l'
    have h' : band (xveq a a') (xlveq l l') = true := h
    rw [band_iff] at h'
    simp only [toL, lveq, xveq_spec h'.1, xlveq_spec h'.2, Bool.and_self]
  | .nil, y, h => by
    cases y <;> first | (cases h; done) | skip
    simp only [toL, lveq]
  | .u, _, h | .sk, _, h | .b _, _, h | .i _ _, _, h | .s _ _, _, h | .np, _, h | .p _ _, _, h | .nsl, _, h | .sl .., _, h | .nm, _, h | .nf, _, h | .ni, _, h | .fn .., _, h | .ag _, _, h | .tu _, _, h => by cases h

theorem xsame_spec {x y : XV} (h : xsame x y = true) : veqA (toV x) (toV y) = true := by
  cases x <;> first | (cases h; done) | skip
  case fn f xs cs =>
    cases y <;> first | (cases h; done) | skip
    rename_i f' xs' cs'
    have h' : band (Nat.beq f f') (band (xlveq xs xs') (xlveq cs cs')) = true := h
    rw [band_iff, band_iff, beq_iff] at h'
    simp only [toV, veqA, h'.1, xlveq_spec h'.2.1, xlveq_spec h'.2.2, beq_self_eq_true, Bool.and_self]
  case ag l =>
    cases y <;> first | (cases h; done) | skip
    rename_i l'
    simp only [toV, veqA]
    exact xlveq_spec (show xlveq l l' = true from h)
  case b a =>
    have h2 := xveq_spec (show xveq (.b a) y = true from h)
    cases y <;> first | (cases h; done) | (simp only [toV, veqA] at h2 ⊢; exact h2)
  case i q a =>
    have h2 := xveq_spec (show xveq (.i q a) y = true from h)
    cases y <;> first | (cases h; done) | (simp only [toV, veqA] at h2 ⊢; exact h2)
  case s l m =>
    have h2 := xveq_spec (show xveq (.s l m) y = true from h)
    cases y <;> first | (cases h; done) | (simp only [toV, veqA] at h2 ⊢; exact h2)
  case np =>
    have h2 := xveq_spec (show xveq (.np) y = true from h)
    cases y <;> first | (cases h; done) | (simp only [toV, veqA] at h2 ⊢; exact h2)
  case p b o =>
    have h2 := xveq_spec (show xveq (.p b o) y = true from h)
    cases y <;> first | (cases h; done) | (simp only [toV, veqA] at h2 ⊢; exact h2)
  case nsl =>
    have h2 := xveq_spec (show xveq (.nsl) y = true from h)
    cases y <;> first | (cases h; done) | (simp only [toV, veqA] at h2 ⊢; exact h2)
  case sl b o c e =>
    have h2 := xveq_spec (show xveq (.sl b o c e) y = true from h)
    cases y <;> first | (cases h; done) | (simp only [toV, veqA] at h2 ⊢; exact h2)
  case nm =>
    have h2 := xveq_spec (show xveq (.nm) y = true from h)
    cases y <;> first | (cases h; done) | (simp only [toV, veqA] at h2 ⊢; exact h2)
  case nf =>
    have h2 := xveq_spec (show xveq (.nf) y = true from h)
    cases y <;> first | (cases h; done) | (simp only [toV, veqA] at h2 ⊢; exact h2)

end
end Go.Abs
