import Derived.Test.YtajobphlclafdaaGreatDoorEngW
set_option linter.unusedVariables false
set_option linter.unusedSimpArgs false
/-! Temporaries, cells and the heap of the quick machine. -/
namespace Go.Abs
set_option linter.unusedVariables false
noncomputable section

theorem sel_put {α : Type} (d e : D16) (x : α) (t : N16 α) : sel e (put d x t) = if e = d then x else sel e t := by
  cases t
  cases d <;> cases e <;> first | (rw [if_pos rfl]; rfl) | (rw [if_neg (by intro h; cases h)]; rfl)
theorem sel_all {α : Type} (d : D16) (x : α) : sel d (N16.all x) = x := by cases d <;> rfl

theorem seln_putn {α : Type} {i j : Nat} (hi : i < 8) (hj : j < 8) (x : α) (t : N8 α) : seln j (putn i x t) = if j = i then x else seln j t := by
  cases t
  have h1 : i = 0 ∨ i = 1 ∨ i = 2 ∨ i = 3 ∨ i = 4 ∨ i = 5 ∨ i = 6 ∨ i = 7 := by omega
  have h2 : j = 0 ∨ j = 1 ∨ j = 2 ∨ j = 3 ∨ j = 4 ∨ j = 5 ∨ j = 6 ∨ j = 7 := by omega
  rcases h1 with rfl | rfl | rfl | rfl | rfl | rfl | rfl | rfl <;> rcases h2 with rfl | rfl | rfl | rfl | rfl | rfl | rfl | rfl <;> rfl
theorem seln_all {α : Type} {j : Nat} (hj : j < 8) (x : α) : seln j (N8.all x) = x := by
  have h2 : j = 0 ∨ j = 1 ∨ j = 2 ∨ j = 3 ∨ j = 4 ∨ j = 5 ∨ j = 6 ∨ j = 7 := by omega
  rcases h2 with rfl | rfl | rfl | rfl | rfl | rfl | rfl | rfl <;> rfl

/-! ### temporaries -/
theorem tget_tset (p q : Pt) (v : XV) (t : Tm) : tget q (tset p v t) = if q = p then v else tget q t := by
  obtain ⟨a, b⟩ := p; obtain ⟨c, d⟩ := q
  simp only [tget, tset, sel_put]
  by_cases h1 : c = a
  · subst h1
    rw [if_pos rfl, sel_put]
    by_cases h2 : d = b
    · subst h2; simp
    · rw [if_neg h2, if_neg (by intro h; cases h; exact h2 rfl)]
  · rw [if_neg h1, if_neg (by intro h; cases h; exact h1 rfl)]

def TX (tx : Tm) (t : VT) : Prop := ∀ p : Pt, toV (tget p tx) = t.get (np p)

theorem TX.put {tx : Tm} {t : VT} (h : TX tx t) (p : Pt) {v : XV} {v' : Value} (hv : toV v = v') : TX (tset p v tx) (t.set (np p) v') := by
  intro q
  rw [tget_tset, VT.get_set]
  by_cases e : q = p
  · subst e; simp [hv]
  · rw [if_neg e, if_neg (fun hh => e (np_inj hh))]; exact h q

theorem TX.nil : TX t0 .nil := by
  intro p
  simp only [tget, t0, sel_all]
  simp [toV, VT.get]

/-! ### cells -/
theorem cget_cset {t : Ce} {i j : Nat} (hi : i < cap t) (hj : j < cap t) (v : XV) : cget (cset v t i) j = if j = i then v else cget t j := by
  cases t with
  | k0 x =>
    have e1 : i = 0 := by have : i < 1 := hi; omega
    have e2 : j = 0 := by have : j < 1 := hj; omega
    subst e1; subst e2; rfl
  | k1 t => exact seln_putn hi hj v t
  | k2 t =>
    have hi' : i < 64 := hi
    have hj' : j < 64 := hj
    show seln (j % 8) (seln (j / 8) (putn (i / 8) (putn (i % 8) v (seln (i / 8) t)) t)) = if j = i then v else seln (j % 8) (seln (j / 8) t)
    rw [seln_putn (by omega) (by omega)]
    by_cases e : j / 8 = i / 8
    · rw [if_pos e, seln_putn (by omega) (by omega)]
      by_cases e2 : j % 8 = i % 8
      · rw [if_pos e2, if_pos (by omega)]
      · rw [if_neg e2, if_neg (by omega), e]
    · rw [if_neg e, if_neg (by omega)]
  | k3 t =>
    have hi' : i < 512 := hi
    have hj' : j < 512 := hj
    show seln (j % 8) (seln (j / 8 % 8) (seln (j / 64) (putn (i / 64) (putn (i / 8 % 8) (putn (i % 8) v (seln (i / 8 % 8) (seln (i / 64) t))) (seln (i / 64) t)) t))) = if j = i then v else seln (j % 8) (seln (j / 8 % 8) (seln (j / 64) t))
    rw [seln_putn (by omega) (by omega)]
    by_cases e : j / 64 = i / 64
    · rw [if_pos e, seln_putn (by omega) (by omega)]
      by_cases e1 : j / 8 % 8 = i / 8 % 8
      · rw [if_pos e1, seln_putn (by omega) (by omega)]
        by_cases e2 : j % 8 = i % 8
        · rw [if_pos e2, if_pos (by omega)]
        · rw [if_neg e2, if_neg (by omega), e, e1]
      · rw [if_neg e1, if_neg (by omega), e]
    · rw [if_neg e, if_neg (by omega)]
  | k4 t =>
    have hi' : i < 4096 := hi
    have hj' : j < 4096 := hj
    show seln (j % 8) (seln (j / 8 % 8) (seln (j / 64 % 8) (seln (j / 512) (putn (i / 512) (putn (i / 64 % 8) (putn (i / 8 % 8) (putn (i % 8) v (seln (i / 8 % 8) (seln (i / 64 % 8) (seln (i / 512) t)))) (seln (i / 64 % 8) (seln (i / 512) t))) (seln (i / 512) t)) t)))) = if j = i then v else seln (j % 8) (seln (j / 8 % 8) (seln (j / 64 % 8) (seln (j / 512) t)))
    rw [seln_putn (by omega) (by omega)]
    by_cases e : j / 512 = i / 512
    · rw [if_pos e, seln_putn (by omega) (by omega)]
      by_cases e0 : j / 64 % 8 = i / 64 % 8
      · rw [if_pos e0, seln_putn (by omega) (by omega)]
        by_cases e1 : j / 8 % 8 = i / 8 % 8
        · rw [if_pos e1, seln_putn (by omega) (by omega)]
          by_cases e2 : j % 8 = i % 8
          · rw [if_pos e2, if_pos (by omega)]
          · rw [if_neg e2, if_neg (by omega), e, e0, e1]
        · rw [if_neg e1, if_neg (by omega), e, e0]
      · rw [if_neg e0, if_neg (by omega), e]
    · rw [if_neg e, if_neg (by omega)]

theorem cap_cset (t : Ce) (v : XV) (i : Nat) : cap (cset v t i) = cap t := by cases t <;> rfl

/-- The cells that are meant. -/
def CX (t : Ce) (c : List Value) : Prop := c.length ≤ cap t ∧ ∀ i, (h : i < c.length) → toV (cget t i) = c[i]

theorem CX.set {t : Ce} {c : List Value} (h : CX t c) {i : Nat} (hi : i < c.length) {v : XV} {v' : Value} (hv : toV v = v') : CX (cset v t i) (c.set i v') := by
  refine ⟨by rw [cap_cset]; simpa using h.1, fun j hj => ?_⟩
  simp only [List.length_set] at hj
  have h1 := h.1
  rw [cget_cset (by omega) (by omega), List.getElem_set]
  by_cases e : j = i
  · rw [if_pos e, if_pos e.symm]; exact hv
  · rw [if_neg e, if_neg (Ne.symm e)]; exact h.2 j hj

/-- One cell more at the end. -/
theorem CX.push {t : Ce} {c : List Value} (h : CX t c) (hr : c.length < cap t) {v : XV} {v' : Value} (hv : toV v = v') : CX (cset v t c.length) (c ++ [v']) := by
  refine ⟨by rw [cap_cset]; simp; omega, fun j hj => ?_⟩
  simp only [List.length_append, List.length_singleton] at hj
  rw [cget_cset hr (by omega), List.getElem_append]
  by_cases e : j = c.length
  · subst e; simp [hv]
  · have : j < c.length := by omega
    rw [if_neg e, dif_pos this]; exact h.2 j this

theorem CX.take {t : Ce} {c : List Value} (h : CX t c) (n : Nat) : CX t (c.take n) := by
  have h1 := h.1
  refine ⟨by simp; omega, fun j hj => ?_⟩
  simp only [List.length_take] at hj
  rw [List.getElem_take]
  exact h.2 j (by omega)

theorem CX.empty (t : Ce) : CX t [] := ⟨Nat.zero_le _, fun i hi => by simp at hi⟩

theorem cap_ceOf (l : Nat) (h : l ≤ 4096) : l ≤ cap (ceOf l) := by
  unfold ceOf
  cases h1 : Nat.ble l 1 with
  | true => rw [ble_iff] at h1; exact h1
  | false =>
    cases h2 : Nat.ble l 8 with
    | true => rw [ble_iff] at h2; exact h2
    | false =>
      cases h3 : Nat.ble l 64 with
      | true => rw [ble_iff] at h3; exact h3
      | false =>
        cases h4 : Nat.ble l 512 with
        | true => rw [ble_iff] at h4; exact h4
        | false => exact h

theorem widen_spec {t : Ce} {k : Ce → R} {r : XV} (h : widen t k = some r) : ∃ t', k t' = some r ∧ cap t < cap t' ∧ ∀ i, i < cap t → cget t' i = cget t i := by
  cases t with
  | k0 v =>
    refine ⟨_, h, (by show (1 : Nat) < 8; decide), fun i hi => ?_⟩
    have hi' : i < 1 := hi
    obtain rfl : i = 0 := by omega
    rfl
  | k1 t =>
    refine ⟨_, h, (by show (8 : Nat) < 64; decide), fun i hi => ?_⟩
    have hi' : i < 8 := hi
    show seln (i % 8) (seln (i / 8) (N8.p0 t z2)) = seln i t
    rw [Nat.div_eq_of_lt hi', Nat.mod_eq_of_lt hi']; rfl
  | k2 t =>
    refine ⟨_, h, (by show (64 : Nat) < 512; decide), fun i hi => ?_⟩
    have hi' : i < 64 := hi
    show seln (i % 8) (seln (i / 8 % 8) (seln (i / 64) (N8.p0 t z3))) = seln (i % 8) (seln (i / 8) t)
    rw [Nat.div_eq_of_lt hi', Nat.mod_eq_of_lt (a := i / 8) (by omega)]; rfl
  | k3 t =>
    refine ⟨_, h, (by show (512 : Nat) < 4096; decide), fun i hi => ?_⟩
    have hi' : i < 512 := hi
    show seln (i % 8) (seln (i / 8 % 8) (seln (i / 64 % 8) (seln (i / 512) (N8.p0 t z4)))) = seln (i % 8) (seln (i / 8 % 8) (seln (i / 64) t))
    rw [Nat.div_eq_of_lt hi', Nat.mod_eq_of_lt (a := i / 64) (by omega)]; rfl
  | k4 t => cases h

theorem CX.widen {t t' : Ce} {c : List Value} (h : CX t c) (hc : cap t ≤ cap t') (hg : ∀ i, i < cap t → cget t' i = cget t i) : CX t' c := by
  have h1 := h.1
  exact ⟨by omega, fun i hi => by rw [hg i (by omega)]; exact h.2 i hi⟩

theorem room_spec : ∀ (f l : Nat) {t : Ce} {k : Ce → R} {r : XV} {c : List Value}, CX t c → room f l t k = some r → ∃ t', k t' = some r ∧ l ≤ cap t' ∧ CX t' c
  | 0, l, t, k, r, c, hc, h => by cases h
  | f + 1, l, t, k, r, c, hc, h => by
    have h' : Bool.rec (motive := fun _ => (Nat → Ce → (Ce → R) → R) → Nat → Ce → (Ce → R) → R) (fun ih l t k => widen t (fun t => ih l t k)) (fun _ _ t k => k t) (Nat.ble l (cap t)) (room f) l t k = some r := h
    cases hb : Nat.ble l (cap t) with
    | true =>
      rw [hb] at h'
      exact ⟨t, h', ble_iff.1 hb, hc⟩
    | false =>
      rw [hb] at h'
      obtain ⟨t', h1, h2, h3⟩ := widen_spec h'
      exact room_spec f l (hc.widen (Nat.le_of_lt h2) h3) h1

/-- A list is written. -/
theorem wrL_spec : ∀ (l : XV) {i : Nat} {t : Ce} {c : List Value} {k : Ce → R} {r : XV}, CX t c → i + (toL l).length ≤ c.length → wrL l i t k = some r → ∃ t', k t' = some r ∧ CX t' (over c i (toL l))
  | .cons a b, i, t, c, k, r, hc, hl, h => by
    have h' : wrL b (Nat.succ i) (cset a t i) k = some r := h
    simp only [toL, List.length_cons] at hl ⊢
    obtain ⟨t', h1, h2⟩ := wrL_spec b (hc.set (i := i) (by omega) rfl) (by simp; omega) h'
    refine ⟨t', h1, ?_⟩
    have : over (c.set i (toV a)) (i + 1) (toL b) = over c i (toV a :: toL b) := by
      unfold over
      apply List.ext_getElem?
      intro j
      have hm1 : min (i + 1) c.length = i + 1 := by omega
      have hm2 : min i c.length = i := by omega
      simp only [List.getElem?_append, List.length_append, List.length_take, List.length_set, List.length_cons, hm1, hm2, List.getElem?_take, List.getElem?_set, List.getElem?_drop, List.getElem?_cons]
      by_cases h1 : j < i
      · have h2 : j < i + 1 := by omega
        simp [h1, h2, show j < i + 1 + (toL b).length by omega, show j < i + ((toL b).length + 1) by omega, show ¬ i = j by omega]
      · by_cases h3 : j = i
        · subst h3
          simp [show j < j + 1 + (toL b).length by omega, show j < c.length by omega]
        · have h4 : ¬ j < i + 1 := by omega
          have h5 : j - i ≠ 0 := by omega
          have h6 : j - i - 1 = j - (i + 1) := by omega
          have h7 : (j < i + 1 + (toL b).length) = (j < i + ((toL b).length + 1)) := by apply propext; omega
          have h8 : i + 1 + (toL b).length + (j - (i + 1 + (toL b).length)) = i + ((toL b).length + 1) + (j - (i + ((toL b).length + 1))) := by omega
          simp only [h1, h4, if_false, h5, h6, h7, h8]
          split
          · rfl
          · rename_i h9
            rw [if_neg (by omega)]
    rw [← this]; exact h2
  | .nil, i, t, c, k, r, hc, hl, h => by
    refine ⟨t, h, ?_⟩
    simp only [toL, over, List.append_nil, List.length_nil, Nat.add_zero, List.take_append_drop]
    exact hc
  | .u, _, _, _, _, _, _, _, h | .sk, _, _, _, _, _, _, _, h | .b _, _, _, _, _, _, _, _, h | .i _ _, _, _, _, _, _, _, _, h | .s _ _, _, _, _, _, _, _, _, h | .np, _, _, _, _, _, _, _, h | .p _ _, _, _, _, _, _, _, _, h | .nsl, _, _, _, _, _, _, _, h | .sl .., _, _, _, _, _, _, _, h | .nm, _, _, _, _, _, _, _, h | .nf, _, _, _, _, _, _, _, h | .ni, _, _, _, _, _, _, _, h | .fn .., _, _, _, _, _, _, _, h | .ag _, _, _, _, _, _, _, _, h | .tu _, _, _, _, _, _, _, _, h => by cases h

theorem rdL_spec {t : Ce} {c : List Value} (hc : CX t c) : ∀ (n i : Nat), i + n ≤ c.length → toL (rdL n t i) = (c.drop i).take n
  | 0, i, _ => by simp only [List.take_zero]; exact toL.eq_2 _ (by intro a b h; cases h)
  | n + 1, i, h => by
    have : rdL (n + 1) t i = .cons (cget t i) (rdL n t (i + 1)) := rfl
    rw [this]
    simp only [toL]
    have hi : i < c.length := by omega
    rw [rdL_spec hc n (i + 1) (by omega), hc.2 i hi, List.drop_eq_getElem_cons hi, List.take_succ_cons]

end
end Go.Abs
