import Derived.Test.YtajobphlclafdaaGreatDoorEngZa
set_option linter.unusedVariables false
set_option linter.unusedSimpArgs false
/-! The quick machine's operations that make and change blocks. -/
namespace Go.Abs
set_option linter.unusedVariables false
noncomputable section
section
variable {n : Pb} {hx : Hp} {h : H} {r : XV}

/-- What a giver gives. -/
def gv (g : Nat → XV) (j c : Nat) : List Value := (List.range' j c).map fun m => toV (g m)
theorem gv_length (g : Nat → XV) (j c : Nat) : (gv g j c).length = c := by simp [gv]
theorem gv_succ (g : Nat → XV) (j c : Nat) : gv g j (c + 1) = toV (g j) :: gv g (j + 1) c := by simp [gv, List.range'_succ]
theorem gv_get (g : Nat → XV) (j c i : Nat) (h : i < c) : (gv g j c)[i]? = some (toV (g (j + i))) := by simp [gv, h]

theorem push_new : ∀ (c : Nat) {g : Nat → XV} {j i : Nat} {t : Ce} {k : Ce → R} {c0 : List Value}, push c g j i t k = some r → CX t c0 → c0.length = i → i + c ≤ cap t →
    ∃ t', k t' = some r ∧ CX t' (c0 ++ gv g j c) ∧ (gv g j c).all one = true ∧ cap t' = cap t
  | 0, g, j, i, t, k, c0, hk, hc, hl, hr => ⟨t, hk, by simpa [gv] using hc, by simp [gv], rfl⟩
  | c + 1, g, j, i, t, k, c0, hk, hc, hl, hr => by
    obtain ⟨h1, h2⟩ := boolrec_none (show Bool.rec (motive := fun _ => R) none (push c g (Nat.succ j) (Nat.succ i) (cset (g j) t i) k) (xone (g j)) = some r from hk)
    subst hl
    obtain ⟨t', h3, h4, h5, h6⟩ := push_new c h2 (hc.push (v := g j) (by omega) rfl) (by simp) (by rw [cap_cset]; omega)
    rw [gv_succ]
    exact ⟨t', h3, by simpa using h4, by simp only [List.all_cons, (xone_spec h1).1, Bool.true_and]; exact h5, by rw [h6, cap_cset]⟩

theorem over_set {c : List Value} {i : Nat} {v : Value} (hi : i < c.length) (q : List Value) (hl : i + 1 + q.length ≤ c.length) : over (c.set i v) (i + 1) q = over c i (v :: q) := by
  unfold over
  apply List.ext_getElem?
  intro j
  have hm1 : min (i + 1) c.length = i + 1 := by omega
  have hm2 : min i c.length = i := by omega
  simp only [List.getElem?_append, List.length_append, List.length_take, List.length_set, List.length_cons, hm1, hm2, List.getElem?_take, List.getElem?_set, List.getElem?_drop, List.getElem?_cons]
  by_cases h1 : j < i
  · have h2 : j < i + 1 := by omega
    simp [h1, h2, show j < i + 1 + q.length by omega, show j < i + (q.length + 1) by omega, show ¬ i = j by omega]
  · by_cases h3 : j = i
    · subst h3
      simp [show j < j + 1 + q.length by omega, show j < c.length by omega]
    · have h4 : ¬ j < i + 1 := by omega
      have h5 : j - i ≠ 0 := by omega
      have h6 : j - i - 1 = j - (i + 1) := by omega
      have h7 : (j < i + 1 + q.length) = (j < i + (q.length + 1)) := by apply propext; omega
      have h8 : i + 1 + q.length + (j - (i + 1 + q.length)) = i + (q.length + 1) + (j - (i + (q.length + 1))) := by omega
      simp only [h1, h4, if_false, h5, h6, h7, h8]
      split
      · rfl
      · rename_i h9
        rw [if_neg (by omega)]

theorem ORx.mk {len : Nat} {t : Ce} {e : Nat} {m : Mode} {c : List Value} (h1 : c.length = len) (h2 : CX t c) : ORx (.ob len t e m) (.cells c e m) := ⟨h1, h2, rfl, rfl⟩
theorem ORx.iter {l m q : Nat} : ORx (.it l m q) (.siter (sbytes l m) q) := ⟨rfl, rfl⟩

theorem push_over : ∀ (c : Nat) {g : Nat → XV} {j i : Nat} {t : Ce} {k : Ce → R} {c0 : List Value}, push c g j i t k = some r → CX t c0 → i + c ≤ c0.length →
    ∃ t', k t' = some r ∧ CX t' (over c0 i (gv g j c)) ∧ (gv g j c).all one = true
  | 0, g, j, i, t, k, c0, hk, hc, hr => ⟨t, hk, by simpa [gv, over] using hc, by simp [gv]⟩
  | c + 1, g, j, i, t, k, c0, hk, hc, hr => by
    obtain ⟨h1, h2⟩ := boolrec_none (show Bool.rec (motive := fun _ => R) none (push c g (Nat.succ j) (Nat.succ i) (cset (g j) t i) k) (xone (g j)) = some r from hk)
    obtain ⟨t', h3, h4, h5⟩ := push_over c h2 (hc.set (i := i) (v := g j) (by omega) rfl) (by simp; omega)
    rw [gv_succ]
    refine ⟨t', h3, ?_, by simp only [List.all_cons, (xone_spec h1).1, Bool.true_and]; exact h5⟩
    rw [show i.succ = i + 1 from rfl, over_set (by omega) _ (by rw [gv_length]; omega)] at h4
    exact h4

theorem ceIn_spec {l : Nat} {k : Ce → R} (hk : ceIn l k = some r) : l ≤ cap (ceOf l) ∧ k (ceOf l) = some r := by
  obtain ⟨h1, h2⟩ := boolrec_none (show Bool.rec (motive := fun _ => R) none (k (ceOf l)) (Nat.ble l 4096) = some r from hk)
  exact ⟨cap_ceOf l (ble_iff.1 h1), h2⟩

theorem gv_lnth (l : XV) : gv (fun j => lnth l j) 0 (toL l).length = toL l := by
  apply List.ext_getElem?
  intro i
  by_cases hi : i < (toL l).length
  · rw [gv_get _ _ _ _ hi, lnth_spec i l hi, Nat.zero_add]
  · rw [List.getElem?_eq_none (by rw [gv_length]; omega), List.getElem?_eq_none (by omega)]

theorem mkL_spec {l : XV} {e : Nat} {m : Mode} {k : Ob → R} (hk : mkL l e m k = some r) : ∃ o, ORx o (.cells (toL l) e m) ∧ k o = some r := by
  obtain ⟨h1, h2⟩ := ceIn_spec (show ceIn (llen l) (fun t => push (llen l) (fun j => lnth l j) 0 0 t (fun t => k (.ob (llen l) t e m))) = some r from hk)
  obtain ⟨t', h3, h4, _⟩ := push_new (llen l) h2 (CX.empty _) rfl (by omega)
  rw [List.nil_append, llen_spec, gv_lnth] at h4
  exact ⟨_, ORx.mk (by rw [llen_spec]) h4, h3⟩

theorem xbox_spec (H0 : HX n hx h) {x : XV} {e : Nat} {k : K} (hk : xbox x e n hx k = some r) :
    OutX (match vcells (toV x) with | some xs => some (.pointer (some ⟨h.next, 0, none⟩), h.new (.cells xs e .var)) | none => none) k r := by
  have hone : ∀ {y : XV}, xone y = true → newO (.p n 0) (.ob 1 (.k0 y) e .var) n hx k = some r →
      OutX (match vcells (toV y) with | some xs => some (.pointer (some ⟨h.next, 0, none⟩), h.new (.cells xs e .var)) | none => none) k r := by
    intro y hy hn
    obtain ⟨m, hx', h1, h2⟩ := newO_spec H0 (a := .cells [toV y] e .var) (ORx.mk rfl ⟨by show 1 ≤ 1; decide, fun i hi => by
      have : i = 0 := by simpa using hi
      subst this; rfl⟩) hn
    refine ⟨_, m, hx', _, ?_, h1, h2⟩
    rw [(xone_spec hy).2]
    simp only [toV, H0.next]
  cases x <;> first | (cases hk; done) | (exact hone rfl hk) | skip
  rename_i l
  obtain ⟨h1, h2⟩ := boolrec_none (show Bool.rec (motive := fun _ => R) none (mkL l e .var (fun o => newO (.p n 0) o n hx k)) (lones l) = some r from hk)
  obtain ⟨o, h3, h4⟩ := mkL_spec h2
  obtain ⟨m, hx', h5, h6⟩ := newO_spec H0 h3 h4
  refine ⟨_, m, hx', _, ?_, h5, h6⟩
  have : vcells (toV (.ag l)) = some (toL l) := by
    simp only [toV, vcells]; rw [if_pos (lones_spec h1)]
  rw [this]
  simp only [toV, H0.next]

theorem xrange_spec (H0 : HX n hx h) {x : XV} {k : K} (hk : xrange x n hx k = some r) : OutX (rangeStr h (toV x)) k r := by
  cases x <;> first | (cases hk; done) | skip
  rename_i l m
  obtain ⟨p, hx', h5, h6⟩ := newO_spec H0 (a := .siter (sbytes l m) 0) ORx.iter (show newO (.p n 0) (.it l m 0) n hx k = some r from hk)
  exact ⟨_, p, hx', _, by simp only [toV, rangeStr, H0.next], h5, h6⟩

theorem decode_ascii {l m q : Nat} (h1 : q < l) (h2 : sbyte m q ≤ 127) : Utf8.decode (sbytes l m) q = (sbyte m q, 1) := by
  have hb : ((sbytes l m).get! (q + 0)).toNat = sbyte m q := by
    have hlt : q < (sbytes l m).data.size := by
      have := sbytes_size l m
      rw [show (sbytes l m).data.size = (sbytes l m).size from rfl, this]; exact h1
    have h3 : (sbytes l m).data[q]? = some (UInt8.ofNat (sbyte m q)) := by
      rw [← Array.getElem?_toList, sbytes_list, sbytes'_get h1]
    have h4 : (sbytes l m).get! q = UInt8.ofNat (sbyte m q) := by
      show (sbytes l m).data[q]! = _
      rw [getElem!_def, h3]
    rw [Nat.add_zero, h4, UInt8.toNat_ofNat', Nat.mod_eq_of_lt (sbyte_lt _ _)]
  unfold Utf8.decode
  simp only [hb]
  rw [if_pos (by omega)]

theorem xnext_spec (H0 : HX n hx h) {x : XV} {k : K} (hk : xnext x n hx k = some r) : OutX (nextStr h (toV x)) k r := by
  cases x <;> first | (cases hk; done) | skip
  rename_i b o
  cases o with
  | succ o => cases hk
  | zero =>
    have h1 : nxtO (hget b hx) b n hx k = some r := hk
    cases ho : hget b hx with
    | it l m q =>
      rw [ho] at h1
      have h2 : nxt l m q b n hx k = some r := h1
      have hg := H0.it ho
      unfold nxt at h2
      simp only [toV, nextStr, ptrOf, hg, sbytes_size]
      cases hq : Nat.ble (Nat.succ q) l with
      | false =>
        rw [hq] at h2
        have hnot : ¬ q < l := fun hh => by rw [ble_iff.2 hh] at hq; cases hq
        rw [if_neg hnot]
        exact ⟨_, n, hx, h, by simp only [toV, toL], H0, h2⟩
      | true =>
        rw [hq] at h2
        rw [ble_iff] at hq
        rw [if_pos (by omega)]
        cases ha : Nat.ble (sbyte m q) 127 with
        | true =>
          rw [ha] at h2
          rw [ble_iff] at ha
          rw [decode_ascii (by omega) ha]
          exact ⟨_, n, _, _, by simp only [toV, toL]; rfl, H0.set b (o := .it l m (Nat.succ q)) (a := .siter (sbytes l m) (q + 1)) ORx.iter, h2⟩
        | false =>
          rw [ha] at h2
          exact ⟨_, n, _, _, by simp only [toV, toL]; rfl, H0.set b (o := .it l m (Nat.add q (Utf8.decode (sbytes l m) q).2)) (a := .siter (sbytes l m) (q + (Utf8.decode (sbytes l m) q).2)) ORx.iter, h2⟩
    | _ => rw [ho] at h1; cases h1

/-! ### append and copy -/

theorem xsl_spec {x : XV} {k : Nat → R} (hk : xsl x k = some r) : ∃ c, srcLen (toV x) = some c ∧ k c = some r := by
  cases x <;> first | (cases hk; done) | skip
  · exact ⟨_, by simp only [toV, srcLen, sbytes_size], hk⟩
  · exact ⟨_, by simp only [toV, srcLen], hk⟩
  · exact ⟨_, by simp only [toV, srcLen], hk⟩

theorem src_spec (H0 : HX n hx h) {x : XV} {z c : Nat} {k : Nat → (Nat → XV) → R} (hk : src x hx z c k = some r) : ∃ c' g, srcCells h z c (toV x) = some (gv g 0 c') ∧ c' = c * z ∧ k c' g = some r := by
  cases x <;> first | (cases hk; done) | skip
  · rename_i l m
    obtain ⟨h1, h2⟩ := boolrec_none (show Bool.rec (motive := fun _ => R) none (k c (fun j => .i .u8 (.ofNat (sbyte m j)))) (band (Nat.ble c l) (Nat.beq z 1)) = some r from hk)
    rw [band_iff, ble_iff, beq_iff] at h1
    obtain ⟨h1, rfl⟩ := h1
    refine ⟨c, _, ?_, by omega, h2⟩
    simp only [toV, srcCells, sbytes_size, sbytes_list]
    rw [if_pos (by exact ⟨h1, trivial⟩)]
    congr 1
    apply List.ext_getElem?
    intro i
    by_cases hi : i < c
    · rw [gv_get _ _ _ _ hi, List.getElem?_map, List.getElem?_take_of_lt hi, sbytes'_get (by omega), Nat.zero_add]
      simp only [Option.map_some, u8_nat, toV]
      rfl
    · rw [List.getElem?_eq_none (by simp [sbytes'_length]; omega), List.getElem?_eq_none (by rw [gv_length]; omega)]
  · rename_i b o m e
    obtain ⟨h1, h2⟩ := boolrec_none (show Bool.rec (motive := fun _ => R) none (srcO (hget b hx) o (Nat.mul c z) k) (band (Nat.ble c m) (Nat.beq e z)) = some r from hk)
    rw [band_iff, ble_iff, beq_iff] at h1
    obtain ⟨h1, rfl⟩ := h1
    cases ho : hget b hx with
    | ob l t e' md =>
      rw [ho] at h2
      obtain ⟨cs, g1, g2, g3⟩ := H0.ob ho
      obtain ⟨h3, h4⟩ := boolrec_none (show Bool.rec (motive := fun _ => R) none (k (Nat.mul c e) (fun j => cget t (Nat.add o j))) (Nat.ble (Nat.add o (Nat.mul c e)) l) = some r from h2)
      have h3' : o + c * e ≤ l := ble_iff.1 h3
      refine ⟨_, _, ?_, rfl, h4⟩
      simp only [toV, srcCells]
      rw [if_pos (by exact ⟨h1, trivial⟩)]
      simp only [rd, g1]
      rw [if_pos (by omega)]
      congr 1
      apply List.ext_getElem?
      intro i
      by_cases hi : i < c * e
      · rw [gv_get _ _ _ _ hi, List.getElem?_take_of_lt hi, List.getElem?_drop, Nat.zero_add]
        have hlt : o + i < cs.length := by omega
        rw [List.getElem?_eq_getElem hlt, ← g3.2 (o + i) hlt]
        rfl
      · rw [List.getElem?_eq_none (by simp; omega), List.getElem?_eq_none (by rw [gv_length]; exact Nat.le_of_not_lt hi)]
    | _ => rw [ho] at h2; cases h2

theorem okSize_spec {u z : Nat} (h : okSize u z = true) : u * z ≤ 1099511627776 ∧ z ≤ 65536 ∧ 0 < z := by
  unfold okSize at h
  rw [band_iff, band_iff, ble_iff, ble_iff, ble_iff] at h
  exact ⟨h.1, h.2.1, h.2.2⟩

theorem okApp_spec {m : Mode} {a b : Nat} (h : okApp m (Nat.beq a b) = true) : m = .own ∨ m = .var ∨ m = .frz ∧ a = b := by
  cases m
  · exact .inl rfl
  · exact .inr (.inl rfl)
  · exact .inr (.inr ⟨rfl, beq_iff.1 h⟩)
  · cases h

theorem isSl_spec {x : XV} (h : isSl x = true) : ∃ a b c, toV x = .slice a b c := by
  cases x <;> first | (cases h; done) | (exact ⟨_, _, _, by simp only [toV]; rfl⟩)

theorem xappend_spec (H0 : HX n hx h) {s x : XV} {e z u : Nat} {k : K} (hk : xappend s x e z u n hx k = some r) : OutX (appendA e z u h (toV s) (toV x)) k r := by
  obtain ⟨c, h1, h2⟩ := xsl_spec (show xsl x (fun c => Nat.rec (motive := fun _ => R) (Bool.rec none (k s n hx) (isSl s)) (fun _ _ => src x hx z c (fun c' g => app2 s e z u c c' g n hx k)) c) = some r from hk)
  unfold appendA
  simp only [h1]
  cases c with
  | zero =>
    obtain ⟨h3, h4⟩ := boolrec_none h2
    obtain ⟨a, b, d, h5⟩ := isSl_spec h3
    refine ⟨s, n, hx, h, ?_, H0, h4⟩
    rw [h5]; rfl
  | succ c =>
    obtain ⟨c', g, h3, h4, h5⟩ := src_spec H0 (show src x hx z (c + 1) (fun c' g => app2 s e z u (c + 1) c' g n hx k) = some r from h2)
    rw [if_neg (by omega), h3]
    simp only []
    cases s <;> first | (cases h5; done) | skip
    · -- nil
      obtain ⟨h6, h7⟩ := boolrec_none (show Bool.rec (motive := fun _ => R) none (ceIn c' (fun t => push c' g 0 0 t (fun t => newO (.sl n 0 (c + 1) z) (.ob c' t e .own) n hx k))) (okSize (c + 1) u) = some r from h5)
      obtain ⟨h8, h9⟩ := ceIn_spec h7
      obtain ⟨t', h10, h11, h12, _⟩ := push_new c' h9 (CX.empty _) rfl (by omega)
      rw [List.nil_append] at h11
      obtain ⟨m, hx', h13, h14⟩ := newO_spec H0 (a := .cells (gv g 0 c') e .own) (ORx.mk (gv_length _ _ _) h11) h10
      refine ⟨_, m, hx', _, ?_, h13, h14⟩
      simp only [toV]
      rw [if_pos (okSize_spec h6), H0.next]
    · rename_i b o m z'
      obtain ⟨h6, h7⟩ := boolrec_none (show Bool.rec (motive := fun _ => R) none (appO (hget b hx) b o m u z e (c + 1) c' g n hx k) (Nat.beq z' z) = some r from h5)
      rw [beq_iff] at h6
      subst h6
      cases ho : hget b hx with
      | ob l t e' md =>
        rw [ho] at h7
        obtain ⟨cs, g1, g2, g3⟩ := H0.ob ho
        have h8 : Bool.rec (motive := fun _ => R) none
           (Nat.rec (motive := fun _ => R) (room 8 (Nat.add (Nat.mul m z') c') t (fun t => push c' g 0 (Nat.mul m z') t (fun t => newO (.sl n 0 (Nat.add m (c + 1)) z') (.ob (Nat.add (Nat.mul m z') c') t e md.grow) n (hset b .de hx) k)))
             (fun _ _ => ceIn (Nat.add (Nat.mul m z') c') (fun t1 => push (Nat.mul m z') (fun j => cget t (Nat.add o j)) 0 0 t1 (fun t => push c' g 0 (Nat.mul m z') t (fun t => newO (.sl n 0 (Nat.add m (c + 1)) z') (.ob (Nat.add (Nat.mul m z') c') t e md.grow) n (hset b .de hx) k)))) o)
           (band (Nat.ble (Nat.add o (Nat.mul m z')) l) (band (Nat.beq e e') (band (okSize (Nat.add m (c + 1)) u) (okApp md (Nat.beq (Nat.add o (Nat.mul m z')) l))))) = some r := h7
        obtain ⟨h9, h10⟩ := boolrec_none h8
        rw [band_iff, band_iff, band_iff, ble_iff, beq_iff] at h9
        obtain ⟨q1, q2, q3, q4⟩ := h9
        have q1' : o + m * z' ≤ l := q1
        subst q2
        have q4' := okApp_spec q4
        have hdead : HX n (hset b .de hx) (h.set (nb b) .dead) := H0.set b (o := .de) (a := .dead) trivial
        have hold : (cs.drop o).take (m * z') = gv (fun j => cget t (o + j)) 0 (m * z') := by
          apply List.ext_getElem?
          intro i
          by_cases hi : i < m * z'
          · rw [gv_get _ _ _ _ hi, List.getElem?_take_of_lt hi, List.getElem?_drop, Nat.zero_add]
            have hlt : o + i < cs.length := by omega
            rw [List.getElem?_eq_getElem hlt, ← g3.2 (o + i) hlt]
          · rw [List.getElem?_eq_none (by simp; omega), List.getElem?_eq_none (by rw [gv_length]; omega)]
        have hlen : (cs.drop o |>.take (m * z')).length = m * z' := by simp; omega
        have hpost : ∀ {t2 : Ce}, CX t2 ((cs.drop o).take (m * z') ++ gv g 0 c') → (gv g 0 c').all one = true → newO (.sl n 0 (Nat.add m (c + 1)) z') (.ob (Nat.add (Nat.mul m z') c') t2 e md.grow) n (hset b .de hx) k = some r →
            ∃ m', ∃ hx', HX m' hx' ((h.set (nb b) .dead).new (.cells ((cs.drop o).take (m * z') ++ gv g 0 c') e md.grow)) ∧ k (.sl n 0 (m + (c + 1)) z') m' hx' = some r ∧ (gv g 0 c').all one = true := by
          intro t2 hc2 hone hn
          obtain ⟨m', hx', h13, h14⟩ := newO_spec hdead (a := .cells ((cs.drop o).take (m * z') ++ gv g 0 c') e md.grow) (ORx.mk (by rw [List.length_append, hlen, gv_length]; rfl) hc2) hn
          exact ⟨m', hx', h13, h14, hone⟩
        suffices hs : ∃ m', ∃ hx', HX m' hx' ((h.set (nb b) .dead).new (.cells ((cs.drop o).take (m * z') ++ gv g 0 c') e md.grow)) ∧ k (.sl n 0 (m + (c + 1)) z') m' hx' = some r ∧ (gv g 0 c').all one = true by
          obtain ⟨m', hx', h13, h14, hone⟩ := hs
          refine ⟨.sl n 0 (m + (c + 1)) z', m', hx', (h.set (nb b) .dead).new (.cells ((cs.drop o).take (m * z') ++ gv g 0 c') e md.grow), ?_, h13, h14⟩
          have q3' := okSize_spec q3
          simp only [toV, g1]
          rw [if_pos (by exact ⟨trivial, trivial, by omega, q3'.1, q3'.2.1, q3'.2.2, hone, by rw [g2]; exact q4'⟩), H0.next]
        cases o with
        | zero =>
          have h11 : room 8 (Nat.add (Nat.mul m z') c') t (fun t => push c' g 0 (Nat.mul m z') t (fun t => newO (.sl n 0 (Nat.add m (c + 1)) z') (.ob (Nat.add (Nat.mul m z') c') t e md.grow) n (hset b .de hx) k)) = some r := h10
          have hstart : CX t ((cs.drop 0).take (m * z')) := by rw [List.drop_zero]; exact g3.take _
          obtain ⟨t2, h12, h13, h14⟩ := room_spec 8 _ hstart h11
          have h13' : m * z' + c' ≤ cap t2 := h13
          obtain ⟨t3, h15, h16, h17, _⟩ := push_new c' h12 h14 (by rw [hlen]; rfl) h13'
          exact hpost h16 h17 h15
        | succ o =>
          have h11 : ceIn (Nat.add (Nat.mul m z') c') (fun t1 => push (Nat.mul m z') (fun j => cget t (Nat.add (o + 1) j)) 0 0 t1 (fun t => push c' g 0 (Nat.mul m z') t (fun t => newO (.sl n 0 (Nat.add m (c + 1)) z') (.ob (Nat.add (Nat.mul m z') c') t e md.grow) n (hset b .de hx) k))) = some r := h10
          obtain ⟨h12, h13⟩ := ceIn_spec h11
          have h12' : m * z' + c' ≤ cap (ceOf (Nat.add (Nat.mul m z') c')) := h12
          have h13' : push (m * z') (fun j => cget t (Nat.add (o + 1) j)) 0 0 (ceOf (Nat.add (Nat.mul m z') c')) (fun t => push c' g 0 (Nat.mul m z') t (fun t => newO (.sl n 0 (Nat.add m (c + 1)) z') (.ob (Nat.add (Nat.mul m z') c') t e md.grow) n (hset b .de hx) k)) = some r := h13
          obtain ⟨t2, h14, h15, _, h16⟩ := push_new (m * z') h13' (CX.empty _) rfl (by omega)
          have h15' : CX t2 ((cs.drop (o + 1)).take (m * z')) := by rw [hold]; simpa using h15
          obtain ⟨t3, h17, h18, h19, _⟩ := push_new c' h14 h15' (by rw [hlen]; rfl) (by rw [h16]; exact h12')
          exact hpost h18 h19 h17
      | _ => rw [ho] at h7; cases h7

theorem nmin_eq (a b : Nat) : nmin a b = Nat.min b a := by
  unfold nmin
  cases h : Nat.ble a b with
  | true => rw [ble_iff] at h; show a = min b a; omega
  | false =>
    have : ¬ a ≤ b := fun hh => by rw [ble_iff.2 hh] at h; cases h
    show b = min b a; omega

theorem xcopy_spec (H0 : HX n hx h) {d x : XV} {z : Nat} {k : K} (hk : xcopy d x z n hx k = some r) : OutX (copyA z h (toV d) (toV x)) k r := by
  cases d <;> first | (cases hk; done) | skip
  · obtain ⟨c, h1, h2⟩ := xsl_spec (show xsl x (fun _ => k (.i .i64 (.ofNat 0)) n hx) = some r from hk)
    exact ⟨_, n, hx, h, by simp only [toV, copyA, h1]; rfl, H0, h2⟩
  · rename_i b o m e
    obtain ⟨h0, h1⟩ := boolrec_none (show Bool.rec (motive := fun _ => R) none (xsl x (fun c => src x hx z (nmin m c) (fun c' g => cpyO (hget b hx) b o (nmin m c) c' g n hx k))) (Nat.beq e z) = some r from hk)
    rw [beq_iff] at h0
    subst h0
    obtain ⟨c, h2, h3⟩ := xsl_spec h1
    obtain ⟨c', g, h4, h5, h6⟩ := src_spec H0 h3
    cases ho : hget b hx with
    | ob l t e' md =>
      rw [ho] at h6
      obtain ⟨cs, g1, g2, g3⟩ := H0.ob ho
      obtain ⟨h7, h8⟩ := boolrec_none (show Bool.rec (motive := fun _ => R) none (push c' g 0 o t (fun t => k (.i .i64 (.ofNat (nmin m c))) n (hset b (.ob l t e' md) hx))) (band (Nat.ble (Nat.add o c') l) (okMode md)) = some r from h6)
      rw [band_iff, ble_iff] at h7
      have h7' : o + c' ≤ l := h7.1
      obtain ⟨t', h9, h10, h11⟩ := push_over c' h8 g3 (by omega)
      have hw := wr_of (xs := gv g 0 c') (o := o) g1 (okMode_spec h7.2) (by rw [gv_length]; omega) h11
      refine ⟨_, n, _, _, ?_, H0.set b (o := .ob l t' e' md) (a := .cells (over cs o (gv g 0 c')) e' md) (ORx.mk ?_ h10), h9⟩
      · simp only [toV, copyA, h2]
        rw [nmin_eq] at h4 ⊢
        simp only [if_true, h4, hw]
        rfl
      · simp only [over, List.length_append, List.length_take, List.length_drop, gv_length]; omega
    | _ => rw [ho] at h6; cases h6

end
end
end Go.Abs
