import Derived.Test.YtajobphlclafdaaGreatDoorEngY
set_option linter.unusedVariables false
set_option linter.unusedSimpArgs false
/-! The quick machine's heap and operations against the abstract machine's. -/
namespace Go.Abs
set_option linter.unusedVariables false
noncomputable section

theorem hget_hset (p q : Pb) (o : Ob) (h : Hp) : hget q (hset p o h) = if q = p then o else hget q h := by
  obtain ⟨a, b, c, d⟩ := p; obtain ⟨a', b', c', d'⟩ := q
  simp only [hget, hset, sel_put]
  by_cases h1 : a' = a
  · subst h1
    rw [if_pos rfl, sel_put]
    by_cases h2 : b' = b
    · subst h2
      rw [if_pos rfl, sel_put]
      by_cases h3 : c' = c
      · subst h3
        rw [if_pos rfl, sel_put]
        by_cases h4 : d' = d
        · subst h4; simp
        · rw [if_neg h4, if_neg (by intro h; cases h; exact h4 rfl)]
      · rw [if_neg h3, if_neg (by intro h; cases h; exact h3 rfl)]
    · rw [if_neg h2, if_neg (by intro h; cases h; exact h2 rfl)]
  · rw [if_neg h1, if_neg (by intro h; cases h; exact h1 rfl)]

def ORx : Ob → AObj → Prop
  | .ob len t e m, .cells c e' m' => c.length = len ∧ CX t c ∧ e = e' ∧ m = m'
  | .it l n q, .siter s q' => s = sbytes l n ∧ q = q'
  | .de, .dead => True
  | _, _ => False

structure HX (n : Pb) (hx : Hp) (h : H) : Prop where
  next : h.next = nb n
  obj : ∀ b, hget b hx = .no ∨ ∃ a, h.get (nb b) = some a ∧ ORx (hget b hx) a

section
variable {n : Pb} {hx : Hp} {h : H} {r : XV}

theorem HX.ob (H0 : HX n hx h) {b : Pb} {len : Nat} {t : Ce} {e : Nat} {m : Mode} (hb : hget b hx = .ob len t e m) : ∃ c, h.get (nb b) = some (.cells c e m) ∧ c.length = len ∧ CX t c := by
  rcases H0.obj b with h1 | ⟨a, h1, h2⟩
  · rw [hb] at h1; cases h1
  · rw [hb] at h2
    cases a with
    | cells c e' m' => obtain ⟨h3, h4, rfl, rfl⟩ := h2; exact ⟨c, h1, h3, h4⟩
    | _ => cases h2
theorem HX.it (H0 : HX n hx h) {b : Pb} {l m q : Nat} (hb : hget b hx = .it l m q) : h.get (nb b) = some (.siter (sbytes l m) q) := by
  rcases H0.obj b with h1 | ⟨a, h1, h2⟩
  · rw [hb] at h1; cases h1
  · rw [hb] at h2
    cases a with
    | siter s q' => obtain ⟨rfl, rfl⟩ := h2; exact h1
    | _ => cases h2

theorem HX.set (H0 : HX n hx h) (b : Pb) {o : Ob} {a : AObj} (ho : ORx o a) : HX n (hset b o hx) (h.set (nb b) a) := by
  refine ⟨H0.next, fun q => ?_⟩
  rw [hget_hset, H.get_set]
  by_cases e : q = b
  · subst e; exact .inr ⟨a, by simp, by simpa using ho⟩
  · rw [if_neg e, if_neg (fun hh => e (nb_inj hh))]; exact H0.obj q

theorem HX.new (H0 : HX n hx h) {m : Pb} (hm : nb m = nb n + 1) {o : Ob} {a : AObj} (ho : ORx o a) : HX m (hset n o hx) (h.new a) := by
  refine ⟨by simp [H0.next, hm], fun q => ?_⟩
  rw [hget_hset, H.get_new, H0.next]
  by_cases e : q = n
  · subst e; exact .inr ⟨a, by simp, by simpa using ho⟩
  · rw [if_neg e, if_neg (fun hh => e (nb_inj hh))]; exact H0.obj q

theorem incD_spec (d : D16) (k : D16 → Bool → R) (h : incD d k = some r) : (∃ d', d2n d' = d2n d + 1 ∧ k d' false = some r) ∨ (d2n d = 15 ∧ ∃ d', d2n d' = 0 ∧ k d' true = some r) := by
  cases d
  all_goals first
    | exact .inl ⟨_, by rfl, h⟩
    | exact .inr ⟨rfl, _, rfl, h⟩

theorem incP_spec (p : Pb) (k : Pb → R) (h : incP p k = some r) : ∃ m, nb m = nb p + 1 ∧ k m = some r := by
  obtain ⟨a, b, c, d⟩ := p
  have h0 : incD a (fun a' x => Bool.rec (motive := fun _ => R) (k (Pb.mk a' b c d)) (incD b (fun b' x => Bool.rec (motive := fun _ => R) (k (Pb.mk a' b' c d)) (incD c (fun c' x => Bool.rec (motive := fun _ => R) (k (Pb.mk a' b' c' d)) (incD d (fun d' x => Bool.rec (motive := fun _ => R) (k (Pb.mk a' b' c' d')) none x)) x)) x)) x) = some r := h
  simp only [nb]
  rcases incD_spec _ _ h0 with ⟨a', e1, h1⟩ | ⟨ea, a', e1, h1⟩
  · exact ⟨_, by simp only []; omega, h1⟩
  rcases incD_spec _ _ h1 with ⟨b', e2, h2⟩ | ⟨eb, b', e2, h2⟩
  · exact ⟨_, by simp only []; omega, h2⟩
  rcases incD_spec _ _ h2 with ⟨c', e3, h3⟩ | ⟨ec, c', e3, h3⟩
  · exact ⟨_, by simp only []; omega, h3⟩
  rcases incD_spec _ _ h3 with ⟨d', e4, h4⟩ | ⟨ed, d', e4, h4⟩
  · exact ⟨_, by simp only []; omega, h4⟩
  · cases h4

theorem newO_spec (H0 : HX n hx h) {v : XV} {o : Ob} {a : AObj} {k : K} (ho : ORx o a) (hk : newO v o n hx k = some r) : ∃ m hx', HX m hx' (h.new a) ∧ k v m hx' = some r := by
  obtain ⟨m, h1, h2⟩ := incP_spec n _ hk
  exact ⟨m, _, H0.new h1 ho, h2⟩

theorem boolrec_none {c : Bool} {a : R} (h : Bool.rec (motive := fun _ => R) none a c = some r) : c = true ∧ a = some r := by
  cases c with
  | false => cases h
  | true => exact ⟨rfl, h⟩

/-- An operation that leaves the heap. -/
def PureX (res : Option Value) (n : Pb) (hx : Hp) (k : K) (r : XV) : Prop := ∃ vx, res = some (toV vx) ∧ k vx n hx = some r
/-- An operation. -/
def OutX (res : Option (Value × H)) (k : K) (r : XV) : Prop := ∃ vx n' hx' h', res = some (toV vx, h') ∧ HX n' hx' h' ∧ k vx n' hx' = some r

theorem PureX.out (H0 : HX n hx h) {res : Option Value} {k : K} (hp : PureX res n hx k r) : OutX (pureO h res) k r := by
  obtain ⟨vx, h1, h2⟩ := hp
  exact ⟨vx, n, hx, h, by rw [h1]; rfl, H0, h2⟩

/-! ### load and store -/
theorem xload1_spec (H0 : HX n hx h) {x : XV} {k : K} (hk : xload1 x n hx k = some r) : PureX (load1 h (toV x)) n hx k r := by
  cases x <;> first | (cases hk; done) | skip
  rename_i b o
  have h1 : ldO (hget b hx) o n hx k = some r := hk
  cases ho : hget b hx with
  | ob l t e m =>
    rw [ho] at h1
    obtain ⟨c, g1, g2, g3⟩ := H0.ob ho
    have h2 : Bool.rec (motive := fun _ => Ce → Nat → Pb → Hp → K → R) (fun _ _ _ _ _ => none) (fun t o n h k => k (cget t o) n h) (Nat.ble (Nat.succ o) l) t o n hx k = some r := h1
    cases hb : Nat.ble (Nat.succ o) l with
    | false => rw [hb] at h2; cases h2
    | true =>
      rw [hb] at h2
      rw [ble_iff] at hb
      have hlt : o < c.length := by omega
      refine ⟨cget t o, ?_, h2⟩
      simp only [toV, load1, ptrOf, g1]
      rw [List.getElem?_eq_getElem hlt, g3.2 o hlt]
  | _ => rw [ho] at h1; cases h1

theorem xloadN_spec (H0 : HX n hx h) {x : XV} {z : Nat} {k : K} (hk : xloadN x z n hx k = some r) : PureX (loadN h z (toV x)) n hx k r := by
  cases x <;> first | (cases hk; done) | skip
  rename_i b o
  have h1 : ldN (hget b hx) z o n hx k = some r := hk
  cases ho : hget b hx with
  | ob l t e m =>
    rw [ho] at h1
    obtain ⟨c, g1, g2, g3⟩ := H0.ob ho
    have h2 : Bool.rec (motive := fun _ => Ce → Nat → Nat → Pb → Hp → K → R) (fun _ _ _ _ _ _ => none) (fun t c o n h k => k (.ag (rdL c t o)) n h) (Nat.ble (Nat.add o z) l) t z o n hx k = some r := h1
    cases hb : Nat.ble (Nat.add o z) l with
    | false => rw [hb] at h2; cases h2
    | true =>
      rw [hb] at h2
      have hb' : o + z ≤ l := ble_iff.1 hb
      refine ⟨.ag (rdL z t o), ?_, h2⟩
      simp only [toV, loadN, ptrOf, rd, g1]
      rw [if_pos (by omega), rdL_spec g3 z o (by omega)]
      rfl
  | _ => rw [ho] at h1; cases h1

theorem okMode_spec {m : Mode} (h : okMode m = true) : m = .own ∨ m = .var := by cases m <;> first | (cases h; done) | simp

theorem wr_of {h : H} {b o : Nat} {xs c : List Value} {e : TypeId} {m : Mode} (h4 : h.get b = some (.cells c e m)) (h5 : m = .own ∨ m = .var) (h6 : o + xs.length ≤ c.length) (h7 : xs.all one = true) : wr h b o xs = some (h.set b (.cells (over c o xs) e m)) := by
  unfold wr
  rw [h4]
  rcases h5 with rfl | rfl <;> simp [h6, h7]

theorem over_one {c : List Value} {o : Nat} {v : Value} (h : o < c.length) : over c o [v] = c.set o v := by
  unfold over
  rw [List.set_eq_take_append_cons_drop, if_pos h]
  simp

theorem xstore1_spec (H0 : HX n hx h) {x v : XV} {k : K} (hk : xstore1 x v n hx k = some r) : OutX ((store h 1 (toV x) (toV v)).map fun h' => (undef, h')) k r := by
  cases x <;> first | (cases hk; done) | skip
  rename_i b o
  have h0 : Bool.rec (motive := fun _ => Pb → Nat → XV → Pb → Hp → K → R) (fun _ _ _ _ _ _ => none) (fun b o v n h k => stO (hget b h) b o v n h k) (xone v) b o v n hx k = some r := hk
  cases hv : xone v with
  | false => rw [hv] at h0; cases h0
  | true =>
    rw [hv] at h0
    have h1 : stO (hget b hx) b o v n hx k = some r := h0
    cases ho : hget b hx with
    | ob l t e m =>
      rw [ho] at h1
      obtain ⟨c, g1, g2, g3⟩ := H0.ob ho
      have h2 : Bool.rec (motive := fun _ => Nat → Ce → Nat → Mode → Pb → Nat → XV → Pb → Hp → K → R) (fun _ _ _ _ _ _ _ _ _ _ => none) (fun l t e m b o v n h k => k .u n (hset b (.ob l (cset v t o) e m) h)) (band (Nat.ble (Nat.succ o) l) (okMode m)) l t e m b o v n hx k = some r := h1
      cases hb : band (Nat.ble (Nat.succ o) l) (okMode m) with
      | false => rw [hb] at h2; cases h2
      | true =>
        rw [hb] at h2
        obtain ⟨hb1, hb2⟩ := band_iff.1 hb
        rw [ble_iff] at hb1
        have hlt : o < c.length := by omega
        obtain ⟨q1, q2⟩ := xone_spec hv
        have hw := wr_of (xs := [toV v]) (o := o) g1 (okMode_spec hb2) (by simp only [List.length_singleton]; omega) (by simp [q1])
        rw [over_one hlt] at hw
        refine ⟨.u, n, _, _, ?_, H0.set b (o := .ob l (cset v t o) e m) (a := .cells (c.set o (toV v)) e m) ⟨by simpa using g2, g3.set hlt rfl, rfl, rfl⟩, h2⟩
        simp only [toV, store, ptrOf]
        rw [q2]
        simp only [List.length_singleton, if_true]
        rw [hw]; rfl
    | _ => rw [ho] at h1; cases h1

theorem xagl_spec {v : XV} (h1 : lones (xagl v) = true) : vcells (toV v) = some (toL (xagl v)) := by
  cases v <;> first | (cases h1; done) | skip
  rename_i l
  have h2 : lones l = true := h1
  show vcells (toV (.ag l)) = some (toL l)
  simp only [toV, vcells]
  rw [if_pos (lones_spec h2)]

theorem xstoreN_spec (H0 : HX n hx h) {x v : XV} {z : Nat} {k : K} (hk : xstoreN x z v n hx k = some r) : OutX ((store h z (toV x) (toV v)).map fun h' => (undef, h')) k r := by
  cases x <;> first | (cases hk; done) | skip
  rename_i b o
  have h0 : Bool.rec (motive := fun _ => Nat → Pb → Nat → XV → Pb → Hp → K → R) (fun _ _ _ _ _ _ _ => none) (fun c b o v n h k => stN (hget b h) c b o v n h k) (band (lones (xagl v)) (Nat.beq (llen (xagl v)) z)) z b o (xagl v) n hx k = some r := hk
  cases hv : band (lones (xagl v)) (Nat.beq (llen (xagl v)) z) with
  | false => rw [hv] at h0; cases h0
  | true =>
    rw [hv] at h0
    obtain ⟨hv1, hv2⟩ := band_iff.1 hv
    rw [beq_iff, llen_spec] at hv2
    have h1 : stN (hget b hx) z b o (xagl v) n hx k = some r := h0
    cases ho : hget b hx with
    | ob l t e m =>
      rw [ho] at h1
      obtain ⟨c, g1, g2, g3⟩ := H0.ob ho
      have h2 : Bool.rec (motive := fun _ => Nat → Ce → Nat → Mode → Pb → Nat → XV → Pb → Hp → K → R) (fun _ _ _ _ _ _ _ _ _ _ => none) (fun l t e m b o v n h k => wrL v o t (fun t => k .u n (hset b (.ob l t e m) h))) (band (Nat.ble (Nat.add o z) l) (okMode m)) l t e m b o (xagl v) n hx k = some r := h1
      cases hb : band (Nat.ble (Nat.add o z) l) (okMode m) with
      | false => rw [hb] at h2; cases h2
      | true =>
        rw [hb] at h2
        obtain ⟨hb1, hb2⟩ := band_iff.1 hb
        have hb1' : o + z ≤ l := ble_iff.1 hb1
        obtain ⟨t', h3, h4⟩ := wrL_spec (xagl v) g3 (by omega) h2
        have hw := wr_of (xs := toL (xagl v)) (o := o) g1 (okMode_spec hb2) (by omega) (lones_spec hv1)
        refine ⟨.u, n, _, _, ?_, H0.set b (o := .ob l t' e m) (a := .cells (over c o (toL (xagl v))) e m) ⟨?_, h4, rfl, rfl⟩, h3⟩
        · simp only [toV, store, ptrOf]
          rw [xagl_spec hv1]
          simp only [hv2, if_true]
          rw [hw]; rfl
        · simp only [over, List.length_append, List.length_take, List.length_drop]; omega
    | _ => rw [ho] at h1; cases h1

end
end
end Go.Abs
