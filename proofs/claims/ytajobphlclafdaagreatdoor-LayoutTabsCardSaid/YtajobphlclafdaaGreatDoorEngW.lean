import Derived.Test.YtajobphlclafdaaGreatDoorEngV
set_option linter.unusedVariables false
set_option linter.unusedSimpArgs false
/-! What the quick machine's values stand for. -/
namespace Go.Abs
set_option linter.unusedVariables false

noncomputable section
def sbytes' (l n : Nat) : List UInt8 := (List.range l).map fun i => UInt8.ofNat (sbyte n i)
theorem sbytes_list (l n : Nat) : (sbytes l n).data.toList = sbytes' l n := rfl
theorem sbytes'_length (l n : Nat) : (sbytes' l n).length = l := by simp [sbytes']
theorem sbytes_size (l n : Nat) : (sbytes l n).size = l := by
  show (sbytes l n).data.size = l
  rw [← Array.length_toList, sbytes_list, sbytes'_length]

def nb (p : Pb) : Nat := d2n p.a + 16 * (d2n p.b + 16 * (d2n p.c + 16 * d2n p.d))
def np (p : Pt) : Nat := 16 * d2n p.a + d2n p.b

theorem d2n_lt (d : D16) : d2n d < 16 := by cases d <;> decide
theorem d2n_inj {a b : D16} (h : d2n a = d2n b) : a = b := by cases a <;> cases b <;> first | rfl | (exact absurd h (by decide))
theorem nb_inj {p q : Pb} (h : nb p = nb q) : p = q := by
  obtain ⟨a, b, c, d⟩ := p; obtain ⟨a', b', c', d'⟩ := q
  simp only [nb] at h
  have h1 := d2n_lt a; have h2 := d2n_lt b; have h3 := d2n_lt c; have h4 := d2n_lt a'; have h5 := d2n_lt b'; have h6 := d2n_lt c'
  have e1 : d2n a = d2n a' := by omega
  have e2 : d2n b = d2n b' := by omega
  have e3 : d2n c = d2n c' := by omega
  have e4 : d2n d = d2n d' := by omega
  rw [d2n_inj e1, d2n_inj e2, d2n_inj e3, d2n_inj e4]
theorem np_inj {p q : Pt} (h : np p = np q) : p = q := by
  obtain ⟨a, b⟩ := p; obtain ⟨a', b'⟩ := q
  simp only [np] at h
  have h1 := d2n_lt b; have h2 := d2n_lt b'
  have e1 : d2n a = d2n a' := by omega
  have e2 : d2n b = d2n b' := by omega
  rw [d2n_inj e1, d2n_inj e2]

theorem eqP_iff {p q : Pb} : eqP p q = true ↔ p = q := by
  constructor
  · intro h
    obtain ⟨a, b, c, d⟩ := p; obtain ⟨a', b', c', d'⟩ := q
    have hb : ∀ x y : Bool, band x y = true → x = true ∧ y = true := by intro x y; cases x <;> cases y <;> simp [band]
    obtain ⟨h1, h⟩ := hb _ _ h
    obtain ⟨h2, h⟩ := hb _ _ h
    obtain ⟨h3, h4⟩ := hb _ _ h
    have e1 : a = a' := d2n_inj (Nat.eq_of_beq_eq_true h1)
    have e2 : b = b' := d2n_inj (Nat.eq_of_beq_eq_true h2)
    have e3 : c = c' := d2n_inj (Nat.eq_of_beq_eq_true h3)
    have e4 : d = d' := d2n_inj (Nat.eq_of_beq_eq_true h4)
    rw [e1, e2, e3, e4]
  · rintro rfl
    have : ∀ n : Nat, Nat.beq n n = true := fun n => Nat.beq_refl n
    simp [eqP, band, this]

theorem band_iff {x y : Bool} : band x y = true ↔ x = true ∧ y = true := by cases x <;> cases y <;> simp [band]
theorem bor_iff {x y : Bool} : bor x y = true ↔ x = true ∨ y = true := by cases x <;> cases y <;> simp [bor]
theorem bnot_eq (x : Bool) : bnot x = !x := by cases x <;> rfl
theorem ble_iff {a b : Nat} : Nat.ble a b = true ↔ a ≤ b := ⟨Nat.le_of_ble_eq_true, Nat.ble_eq_true_of_le⟩
theorem beq_iff {a b : Nat} : Nat.beq a b = true ↔ a = b := ⟨Nat.eq_of_beq_eq_true, by rintro rfl; exact Nat.beq_refl _⟩

mutual
/-- The value that is meant. -/
def toV : XV → Value
  | .u => undef
  | .sk => skipv
  | .b x => .bool x
  | .i k n => .int k n
  | .s l n => .string (sbytes l n)
  | .np => .pointer none
  | .p b o => .pointer (some ⟨nb b, o, none⟩)
  | .nsl => .slice none 0 0
  | .sl b o n e => .slice (some ⟨nb b, o, none⟩) n e
  | .nm => .map none
  | .nf => .nilFunc
  | .ni => .nilIface
  | .fn f xs cs => .func (.func f) (toL xs).toArray (toL cs).toArray
  | .ag l => .agg (toL l).toArray
  | .tu l => .tuple (toL l).toArray
  | .nil => undef
  | .cons _ _ => undef
/-- The list that is meant. -/
def toL : XV → List Value
  | .cons a b => toV a :: toL b
  | _ => []
end

theorem xone_spec {x : XV} (h : xone x = true) : one (toV x) = true ∧ vcells (toV x) = some [toV x] := by
  cases x <;> first | (cases h; done) | (simp only [toV, one, vcells, and_self])

theorem lones_spec : ∀ {l : XV}, lones l = true → (toL l).all one = true
  | .cons a b, h => by
    have h' : Bool.rec (motive := fun _ => Bool → Bool) (fun _ => false) (fun ih => ih) (xone a) (lones b) = true := h
    cases ha : xone a with
    | false => rw [ha] at h'; cases h'
    | true =>
      rw [ha] at h'
      simp only [toL, List.all_cons, (xone_spec ha).1, Bool.true_and]
      exact lones_spec h'
  | .nil, _ => by simp [toL]
  | .u, h | .sk, h | .b _, h | .i _ _, h | .s _ _, h | .np, h | .p _ _, h | .nsl, h | .sl .., h | .nm, h | .nf, h | .ni, h | .fn .., h | .ag _, h | .tu _, h => by cases h

theorem llen_spec : ∀ (l : XV), llen l = (toL l).length
  | .cons a b => by
    show Nat.succ (llen b) = _
    simp only [toL, List.length_cons, llen_spec b]
  | .nil | .u | .sk | .b _ | .i _ _ | .s _ _ | .np | .p _ _ | .nsl | .sl .. | .nm | .nf | .ni | .fn .. | .ag _ | .tu _ => by simp only [toL, List.length_nil]; rfl

theorem lapp_spec : ∀ (l m : XV), toL (lapp l m) = toL l ++ toL m
  | .cons a b, m => by
    show toL (.cons a (lapp b m)) = _
    simp only [toL, lapp_spec b m, List.cons_append]
  | .nil, m | .u, m | .sk, m | .b _, m | .i _ _, m | .s _ _, m | .np, m | .p _ _, m | .nsl, m | .sl .., m | .nm, m | .nf, m | .ni, m | .fn .., m | .ag _, m | .tu _, m => by simp only [toL, List.nil_append]; rfl

/-! ### bytes -/
theorem sbyte_bit (n i j : Nat) : (sbyte n i).testBit j = (decide (j < 8) && n.testBit (8 * i + j)) := by
  have : sbyte n i = (n >>> (8 * i)) % 2 ^ 8 := rfl
  rw [this, Nat.testBit_mod_two_pow, Nat.testBit_shiftRight]

theorem sbyte_lt (n i : Nat) : sbyte n i < 256 := Nat.mod_lt _ (by decide)

theorem scut_byte (n lo l i : Nat) (h : i < l) : sbyte (scut n lo l) i = sbyte n (lo + i) := by
  apply Nat.eq_of_testBit_eq
  intro j
  rw [sbyte_bit, sbyte_bit]
  have e : scut n lo l = (n >>> (8 * lo)) % 2 ^ (8 * l) := rfl
  rw [e, Nat.testBit_mod_two_pow, Nat.testBit_shiftRight]
  by_cases hj : j < 8
  · have h1 : 8 * i + j < 8 * l := by omega
    have h2 : 8 * lo + (8 * i + j) = 8 * (lo + i) + j := by omega
    simp [hj, h1, h2]
  · simp [hj]

theorem scat_byte (l n m i : Nat) : sbyte (scat l n m) i = if i < l then sbyte n i else sbyte m (i - l) := by
  apply Nat.eq_of_testBit_eq
  intro j
  have e : scat l n m = (n % 2 ^ (8 * l)) ||| (m <<< (8 * l)) := rfl
  rw [sbyte_bit, e, Nat.testBit_or, Nat.testBit_mod_two_pow, Nat.testBit_shiftLeft]
  by_cases hi : i < l
  · rw [if_pos hi, sbyte_bit]
    by_cases hj : j < 8
    · have h1 : 8 * i + j < 8 * l := by omega
      have h2 : ¬ (8 * i + j ≥ 8 * l) := by omega
      simp [hj, h1, h2]
    · simp [hj]
  · rw [if_neg hi, sbyte_bit]
    by_cases hj : j < 8
    · have h1 : ¬ (8 * i + j < 8 * l) := by omega
      have h2 : 8 * i + j ≥ 8 * l := by omega
      have h3 : 8 * i + j - 8 * l = 8 * (i - l) + j := by omega
      simp [hj, h1, h2, h3]
    · simp [hj]

theorem sbytes'_get {l n i : Nat} (h : i < l) : (sbytes' l n)[i]? = some (UInt8.ofNat (sbyte n i)) := by
  simp [sbytes', h]

theorem scut_bytes (m a b l : Nat) (h : b ≤ l) (hab : a ≤ b) : sbytes' (b - a) (scut m a (b - a)) = ((sbytes' l m).drop a).take (b - a) := by
  apply List.ext_getElem?
  intro i
  by_cases hi : i < b - a
  · rw [sbytes'_get hi, scut_byte _ _ _ _ hi, List.getElem?_take_of_lt hi, List.getElem?_drop, sbytes'_get (by omega)]
  · rw [List.getElem?_eq_none (by rw [sbytes'_length]; omega), List.getElem?_eq_none (by simp; omega)]

theorem scat_bytes (l n l' n' : Nat) : sbytes' (l + l') (scat l n n') = sbytes' l n ++ sbytes' l' n' := by
  apply List.ext_getElem?
  intro i
  by_cases hi : i < l + l'
  · rw [sbytes'_get hi, scat_byte]
    by_cases h1 : i < l
    · rw [if_pos h1, List.getElem?_append_left (by rw [sbytes'_length]; exact h1), sbytes'_get h1]
    · rw [if_neg h1, List.getElem?_append_right (by rw [sbytes'_length]; omega), sbytes'_length, sbytes'_get (by omega)]
  · rw [List.getElem?_eq_none (by rw [sbytes'_length]; omega), List.getElem?_eq_none (by simp [sbytes'_length]; omega)]

theorem mod_bit (n l i : Nat) : (n % 2 ^ (8 * l)).testBit i = (decide (i < 8 * l) && n.testBit i) := Nat.testBit_mod_two_pow ..

theorem seq_iff (l n l' n' : Nat) : seq l n l' n' = true ↔ sbytes' l n = sbytes' l' n' := by
  unfold seq
  rw [band_iff, beq_iff, beq_iff]
  constructor
  · rintro ⟨rfl, h⟩
    have h' : n % 2 ^ (8 * l) = n' % 2 ^ (8 * l) := h
    apply List.ext_getElem?
    intro i
    by_cases hi : i < l
    · rw [sbytes'_get hi, sbytes'_get hi]
      congr 2
      apply Nat.eq_of_testBit_eq
      intro j
      rw [sbyte_bit, sbyte_bit]
      by_cases hj : j < 8
      · have := congrArg (fun z => z.testBit (8 * i + j)) h'
        simp only [mod_bit] at this
        have h1 : 8 * i + j < 8 * l := by omega
        simp [h1] at this
        simp [hj, this]
      · simp [hj]
    · rw [List.getElem?_eq_none (by rw [sbytes'_length]; omega), List.getElem?_eq_none (by rw [sbytes'_length]; omega)]
  · intro h
    have hl : l = l' := by rw [← sbytes'_length l n, h, sbytes'_length]
    subst hl
    refine ⟨rfl, ?_⟩
    show n % 2 ^ (8 * l) = n' % 2 ^ (8 * l)
    apply Nat.eq_of_testBit_eq
    intro j
    rw [mod_bit, mod_bit]
    by_cases hj : j < 8 * l
    · have h1 : j / 8 < l := by omega
      have h2 := congrArg (·[j / 8]?) h
      simp only [sbytes'_get h1, Option.some.injEq] at h2
      have h3 := congrArg UInt8.toNat h2
      simp only [UInt8.toNat_ofNat'] at h3
      rw [Nat.mod_eq_of_lt (sbyte_lt _ _), Nat.mod_eq_of_lt (sbyte_lt _ _)] at h3
      have h4 := congrArg (fun z => z.testBit (j % 8)) h3
      simp only [sbyte_bit] at h4
      have h5 : 8 * (j / 8) + j % 8 = j := by omega
      have h6 : j % 8 < 8 := by omega
      simp [h5, h6] at h4
      simp [hj, h4]
    · simp [hj]

/-! ### numbers -/
theorem wrap_i64 {z : Int} (h1 : -9223372036854775808 ≤ z) (h2 : z ≤ 9223372036854775807) : IntKind.wrap .i64 z = z := by
  simp only [IntKind.wrap, IntKind.bits, IntKind.signed]
  by_cases hz : 0 ≤ z
  · have : z % 2 ^ 64 = z := Int.emod_eq_of_lt hz (by omega)
    simp only [this]
    split
    · rename_i h; simp at h; omega
    · rfl
  · have : z % 2 ^ 64 = z + 2 ^ 64 := by omega
    simp only [this]
    split
    · omega
    · rename_i h; simp at h; omega

theorem inorm_eq (k : IntKind) (z : Int) : inorm k z = k.wrap z := by
  cases k <;> try rfl
  · cases z with
    | ofNat n =>
      show Bool.rec (motive := fun _ => Int) (IntKind.wrap .i64 (.ofNat n)) (.ofNat n) (Nat.ble n 9223372036854775807) = _
      cases h : Nat.ble n 9223372036854775807 with
      | false => rfl
      | true =>
        rw [ble_iff] at h
        rw [wrap_i64 (by simp only [Int.ofNat_eq_natCast]; omega) (by simp only [Int.ofNat_eq_natCast]; omega)]
    | negSucc n =>
      show Bool.rec (motive := fun _ => Int) (IntKind.wrap .i64 (.negSucc n)) (.negSucc n) (Nat.ble n 9223372036854775807) = _
      cases h : Nat.ble n 9223372036854775807 with
      | false => rfl
      | true =>
        rw [ble_iff] at h
        rw [wrap_i64 (by omega) (by omega)]
  · cases z with
    | ofNat n =>
      show Int.ofNat (n % 256) = _
      simp only [IntKind.wrap, IntKind.bits, IntKind.signed]
      simp
    | negSucc n => rfl

theorem isubNat_eq (a b : Nat) : isubNat a b = (a : Int) - b := by
  unfold isubNat
  cases h : Nat.ble b a with
  | true =>
    rw [ble_iff] at h
    show Int.ofNat (a - b) = _
    simp; omega
  | false =>
    have h' : ¬ b ≤ a := fun hh => by rw [ble_iff.2 hh] at h; cases h
    show Int.negSucc (Nat.pred (b - a)) = _
    simp only [Nat.pred_eq_sub_one]; omega
theorem iadd_eq (a b : Int) : iadd a b = a + b := by
  cases a <;> cases b
  · show Int.ofNat (_ + _) = _; simp
  · rename_i a b; show isubNat a (b + 1) = _; rw [isubNat_eq]; simp; omega
  · rename_i a b; show isubNat b (a + 1) = _; rw [isubNat_eq]; simp; omega
  · rename_i a b; show Int.negSucc (a + b + 1) = _; omega
theorem isub_eq (a b : Int) : isub a b = a - b := by
  cases a <;> cases b
  · rename_i a b; show isubNat a b = _; rw [isubNat_eq]; simp
  · rename_i a b; show Int.ofNat (a + b + 1) = _; simp; omega
  · rename_i a b; show Int.negSucc (a + b) = _; simp; omega
  · rename_i a b; show isubNat b a = _; rw [isubNat_eq]; omega
theorem ile_iff (a b : Int) : ile a b = true ↔ a ≤ b := by
  cases a <;> cases b
  · show Nat.ble _ _ = true ↔ _; rw [ble_iff]; simp
  · show false = true ↔ _; simp; omega
  · show true = true ↔ _; simp; omega
  · show Nat.ble _ _ = true ↔ _; rw [ble_iff]; omega
theorem ieq_iff (a b : Int) : ieq a b = true ↔ a = b := by
  cases a <;> cases b
  · show Nat.beq _ _ = true ↔ _; rw [beq_iff]; simp only [Int.ofNat_eq_natCast]; omega
  · show false = true ↔ _; simp
  · show false = true ↔ _; simp
  · show Nat.beq _ _ = true ↔ _; rw [beq_iff]; simp; omega
theorem eqKd_iff (a b : IntKind) : eqKd a b = true ↔ a = b := by cases a <;> cases b <;> first | (constructor <;> intro _ <;> rfl) | (constructor <;> intro h <;> cases h)

end
end Go.Abs
