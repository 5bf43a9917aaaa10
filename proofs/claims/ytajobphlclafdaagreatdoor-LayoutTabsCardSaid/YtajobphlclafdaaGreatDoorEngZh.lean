import Derived.Test.YtajobphlclafdaaGreatDoorEngZg
import Derived.Test.YtajobphlclafdaaGreatDoorEngX
set_option linter.unusedVariables false
set_option linter.unusedSimpArgs false
/-! What is told of some functions, on the quick machine. -/
namespace Go.Abs
set_option linter.unusedVariables false
noncomputable section

def fpos (m : Nat) (c : Nat) (l : Nat) (i : Nat) : Int :=
  Nat.rec (motive := fun _ => Nat → Int) (fun _ => .negSucc 0) (fun _ ih i => Bool.rec (ih (Nat.succ i)) (.ofNat i) (Nat.beq (sbyte m i) c)) l i
def fcnt (m : Nat) (c : Nat) (l : Nat) (i : Nat) (a : Nat) : Nat :=
  Nat.rec (motive := fun _ => Nat → Nat → Nat) (fun _ a => a) (fun _ ih i a => ih (Nat.succ i) (Bool.rec a (Nat.succ a) (Nat.beq (sbyte m i) c))) l i a
def xIndex (a : XV) (n : Pb) (h : Hp) (k : K) : R := match a with
  | .cons (.s l m) (.cons (.i .u8 (.ofNat c)) .nil) => Bool.rec none (k (.i .i64 (fpos m c l 0)) n h) (Nat.ble c 255)
  | _ => none
def xCount (a : XV) (n : Pb) (h : Hp) (k : K) : R := match a with
  | .cons (.s l m) (.cons (.i .u8 (.ofNat c)) .nil) => Bool.rec none (k (.i .i64 (.ofNat (fcnt m c l 0 0))) n h) (Nat.ble c 255)
  | _ => none
def xCheck (T : List (Nat × Nat × Nat)) (a : XV) (n : Pb) (h : Hp) (k : K) : R := match a with
  | .cons (.p b o) .nil => match hget b h with
    | .ob l tr e m => match Nat.ble (Nat.succ o) l with
      | true => match cget tr o with
        | .np => match m with
          | .var => Bool.rec none (k .u n (hset b (.ob l (cset (.p b o) tr o) e .var) h)) (isIn T e l o)
          | _ => none
        | .p b' o' => Bool.rec none (k .u n h) (band (eqP b b') (Nat.beq o o'))
        | _ => none
      | false => none
    | _ => none
  | _ => none
/-- bytes of cells, as a number -/
def bnum (c : Nat) (tr : Ce) (o : Nat) (k : Nat → R) : R :=
  Nat.rec (motive := fun _ => Nat → (Nat → R) → R) (fun _ k => k 0) (fun _ ih o k => match cget tr o with
    | .i .u8 (.ofNat b) => Bool.rec none (ih (Nat.succ o) (fun r => k (Nat.add b (Nat.mul 256 r)))) (Nat.ble b 255)
    | _ => none) c o k
def xStr (U : Nat) (a : XV) (n : Pb) (h : Hp) (k : K) : R := match a with
  | .cons (.p b o) .nil => match hget b h with
    | .ob l tr _ _ => match Nat.ble (Nat.succ (Nat.succ o)) l with
      | true => match cget tr (Nat.succ o) with
        | .nsl => k (.s 0 0) n h
        | .sl b' o' c e => match hget b' h with
          | .ob l' tr' e' m' => match m' with
            | .frg => none
            | _ => Bool.rec none (bnum c tr' o' (fun r => k (.s c r) n (hset b' (.ob l' tr' e' .frz) h))) (band (Nat.ble 1 c) (band (Nat.beq e 1) (band (Nat.beq e' U) (band (Nat.ble (Nat.add o' c) l') (Nat.ble c 16777216)))))
          | _ => none
        | _ => none
      | false => none
    | _ => none
  | _ => none
def extX (N : Nums) (f : Nat) (a : XV) (n : Pb) (h : Hp) (k : K) : R :=
  if f = N.index then xIndex a n h k else if f = N.count then xCount a n h k else if f = N.check then xCheck N.T a n h k else if f = N.str then xStr N.U a n h k else none

/-! ### positions -/
theorem fpos_spec (m c : Nat) (hc : c < 256) : ∀ (l i : Nat), fpos m c l i = posOf (UInt8.ofNat c) ((List.range' i l).map fun j => UInt8.ofNat (sbyte m j)) i
  | 0, i => rfl
  | l + 1, i => by
    have h : fpos m c (l + 1) i = Bool.rec (fpos m c l (i + 1)) (.ofNat i) (Nat.beq (sbyte m i) c) := rfl
    rw [h, List.range'_succ, List.map_cons, posOf]
    cases hb : Nat.beq (sbyte m i) c with
    | true =>
      rw [beq_iff] at hb
      rw [if_pos (by rw [hb])]; rfl
    | false =>
      have hne : sbyte m i ≠ c := fun e => by rw [beq_iff.2 e] at hb; cases hb
      have hlt := sbyte_lt m i
      rw [if_neg (fun e => hne (by
        have := congrArg UInt8.toNat e
        simp only [UInt8.toNat_ofNat'] at this
        rw [Nat.mod_eq_of_lt hlt, Nat.mod_eq_of_lt hc] at this
        exact this))]
      exact fpos_spec m c hc l (i + 1)

theorem fcnt_spec (m c : Nat) (hc : c < 256) : ∀ (l i a : Nat), fcnt m c l i a = cntOf (UInt8.ofNat c) ((List.range' i l).map fun j => UInt8.ofNat (sbyte m j)) a
  | 0, i, a => rfl
  | l + 1, i, a => by
    have h : fcnt m c (l + 1) i a = fcnt m c l (i + 1) (Bool.rec a (Nat.succ a) (Nat.beq (sbyte m i) c)) := rfl
    rw [h, List.range'_succ, List.map_cons, cntOf, fcnt_spec m c hc l (i + 1)]
    cases hb : Nat.beq (sbyte m i) c with
    | true =>
      rw [beq_iff] at hb
      rw [if_pos (by rw [hb])]
    | false =>
      have hne : sbyte m i ≠ c := fun e => by rw [beq_iff.2 e] at hb; cases hb
      have hlt := sbyte_lt m i
      rw [if_neg (fun e => hne (by
        have := congrArg UInt8.toNat e
        simp only [UInt8.toNat_ofNat'] at this
        rw [Nat.mod_eq_of_lt hlt, Nat.mod_eq_of_lt hc] at this
        exact this))]

theorem bytes_range (l m : Nat) : (sbytes l m).data.toList = (List.range' 0 l).map fun j => UInt8.ofNat (sbyte m j) := by
  rw [sbytes_list, sbytes', List.range_eq_range']

theorem two_args {a : XV} {f : XV → XV → R} {r : XV} : True := trivial

theorem xIndex_ok {a : XV} {n : Pb} {hx : Hp} {k : K} {r : XV} (hr : xIndex a n hx k = some r) {h : H} (H0 : HX n hx h) : OutX (oIndexByte (toL a) h) k r := by
  unfold xIndex at hr
  split at hr
  · rename_i l m c
    rcases boolrec_cases hr with ⟨_, h1⟩ | ⟨h1, h2⟩
    · cases h1
    · rw [ble_iff] at h1
      refine ⟨_, n, hx, h, ?_, H0, h2⟩
      simp only [toL, toV, oIndexByte]
      rw [if_pos (by omega), bytes_range, fpos_spec _ _ (by omega)]
  · cases hr

theorem xCount_ok {a : XV} {n : Pb} {hx : Hp} {k : K} {r : XV} (hr : xCount a n hx k = some r) {h : H} (H0 : HX n hx h) : OutX (oCount (toL a) h) k r := by
  unfold xCount at hr
  split at hr
  · rename_i l m c
    rcases boolrec_cases hr with ⟨_, h1⟩ | ⟨h1, h2⟩
    · cases h1
    · rw [ble_iff] at h1
      refine ⟨_, n, hx, h, ?_, H0, h2⟩
      simp only [toL, toV, oCount]
      rw [if_pos (by omega), bytes_range, fcnt_spec _ _ (by omega)]
      rfl
  · cases hr

theorem xCheck_ok {T : List (Nat × Nat × Nat)} {a : XV} {n : Pb} {hx : Hp} {k : K} {r : XV} (hr : xCheck T a n hx k = some r) {h : H} (H0 : HX n hx h) : OutX (oCopyCheck T (toL a) h) k r := by
  unfold xCheck at hr
  split at hr
  · rename_i b o
    split at hr
    · rename_i l tr e m hb
      obtain ⟨c, g1, g2, g3⟩ := H0.ob hb
      split at hr
      · rename_i hlt
        rw [ble_iff] at hlt
        have hlt' : o < c.length := by omega
        have hcell := g3.2 o hlt'
        split at hr
        · rename_i hc
          rw [hc] at hcell
          have hcell' : c[o]? = some (.pointer none) := by rw [List.getElem?_eq_getElem hlt', ← hcell]; simp only [toV]
          split at hr
          · rcases boolrec_cases hr with ⟨_, h1⟩ | ⟨h1, h2⟩
            · cases h1
            · refine ⟨.u, n, _, _, ?_, H0.set b (o := .ob l (cset (.p b o) tr o) e .var) (a := .cells (c.set o (.pointer (some ⟨nb b, o, none⟩))) e .var) ⟨by simpa using g2, g3.set hlt' (by simp only [toV]), rfl, rfl⟩, h2⟩
              simp only [toL, toV, oCopyCheck, g1, hcell']
              rw [if_pos ⟨trivial, by rw [g2]; exact h1⟩]
          · cases hr
        · rename_i b' o' hc
          rw [hc] at hcell
          have hcell' : c[o]? = some (.pointer (some ⟨nb b', o', none⟩)) := by rw [List.getElem?_eq_getElem hlt', ← hcell]; simp only [toV]
          rcases boolrec_cases hr with ⟨_, h1⟩ | ⟨h1, h2⟩
          · cases h1
          · rw [band_iff, eqP_iff, beq_iff] at h1
            obtain ⟨rfl, rfl⟩ := h1
            refine ⟨.u, n, hx, h, ?_, H0, h2⟩
            simp only [toL, toV, oCopyCheck, g1, hcell', and_self, if_true]
        · cases hr
      · cases hr
    · cases hr
  · cases hr

/-! ### bytes of cells -/
theorem bnum_spec {tr : Ce} {c : List Value} (hc : CX tr c) : ∀ (len o : Nat) {k : Nat → R} {r : XV}, o + len ≤ c.length → bnum len tr o k = some r → ∃ m, k m = some r ∧ m < 256 ^ len ∧ bytesOf ((c.drop o).take len) = some (sbytes' len m)
  | 0, o, k, r, hl, hr => ⟨0, hr, by simp, by simp [bytesOf, sbytes']⟩
  | len + 1, o, k, r, hl, hr => by
    have hr' : (match cget tr o with
      | .i .u8 (.ofNat b) => Bool.rec none (bnum len tr (Nat.succ o) (fun r => k (Nat.add b (Nat.mul 256 r)))) (Nat.ble b 255)
      | _ => none) = some r := hr
    have hlt : o < c.length := by omega
    have hcell := hc.2 o hlt
    split at hr'
    · rename_i b hb
      rw [hb] at hcell
      rcases boolrec_cases hr' with ⟨_, h1⟩ | ⟨h1, h2⟩
      · cases h1
      · rw [ble_iff] at h1
        obtain ⟨m, e1, e2, e3⟩ := bnum_spec hc len (o + 1) (by omega) h2
        refine ⟨b + 256 * m, e1, ?_, ?_⟩
        · rw [Nat.pow_succ]; omega
        · rw [List.drop_eq_getElem_cons hlt, List.take_succ_cons, ← hcell]
          simp only [toV, bytesOf]
          rw [if_pos (by omega), e3]
          simp only [Option.some.injEq]
          have hz : ∀ i, sbyte (b + 256 * m) (i + 1) = sbyte m i := by
            intro i
            unfold sbyte
            show (b + 256 * m) >>> (8 * (i + 1)) % 256 = m >>> (8 * i) % 256
            rw [show 8 * (i + 1) = 8 + 8 * i by omega, Nat.shiftRight_add]
            congr 2
            rw [Nat.shiftRight_eq_div_pow]; omega
          have h0 : sbyte (b + 256 * m) 0 = b := by
            unfold sbyte
            show (b + 256 * m) >>> (8 * 0) % 256 = b
            simp; omega
          unfold sbytes'
          rw [List.range_succ_eq_map, List.map_cons, List.map_map, h0]
          congr 1
          apply List.map_congr_left
          intro i _
          simp only [Function.comp, Nat.succ_eq_add_one, hz]
    · cases hr'

theorem ByteArray_of {s : ByteArray} {l : List UInt8} (h : s.data.toList = l) : (⟨l.toArray⟩ : ByteArray) = s := by
  apply ByteArray.ext
  apply Array.ext'
  simpa using h.symm

theorem xStr_ok {U : Nat} {a : XV} {n : Pb} {hx : Hp} {k : K} {r : XV} (hr : xStr U a n hx k = some r) {h : H} (H0 : HX n hx h) : OutX (oString U (toL a) h) k r := by
  unfold xStr at hr
  split at hr
  · rename_i b o
    split at hr
    · rename_i l tr e m hb
      obtain ⟨c, g1, g2, g3⟩ := H0.ob hb
      split at hr
      · rename_i hlt
        rw [ble_iff] at hlt
        have hlt' : o + 1 < c.length := by omega
        have hcell := g3.2 (o + 1) hlt'
        split at hr
        · rename_i hc
          rw [hc] at hcell
          have hcell' : c[o + 1]? = some (.slice none 0 0) := by rw [List.getElem?_eq_getElem hlt', ← hcell]; simp only [toV]
          refine ⟨.s 0 0, n, hx, h, ?_, H0, hr⟩
          simp only [toL, toV, oString, g1, hcell']
          rfl
        · rename_i b' o' cn ee hc
          rw [hc] at hcell
          have hcell' : c[o + 1]? = some (.slice (some ⟨nb b', o', none⟩) cn ee) := by rw [List.getElem?_eq_getElem hlt', ← hcell]; simp only [toV]
          split at hr
          · rename_i l' tr' e' m' hb'
            obtain ⟨c', f1, f2, f3⟩ := H0.ob hb'
            split at hr
            · cases hr
            · rename_i hm
              rcases boolrec_cases hr with ⟨_, h1⟩ | ⟨h1, h2⟩
              · cases h1
              · rw [band_iff, band_iff, band_iff, band_iff, beq_iff, beq_iff, ble_iff, ble_iff, ble_iff] at h1
                obtain ⟨q1, rfl, rfl, q2, q3⟩ := h1
                have q2' : o' + cn ≤ l' := q2
                obtain ⟨mm, e1, e2, e3⟩ := bnum_spec f3 cn o' (by omega) h2
                refine ⟨.s cn mm, n, _, _, ?_, H0.set b' (o := .ob l' tr' e' .frz) (a := .cells c' e' .frz) ⟨f2, f3, rfl, rfl⟩, e1⟩
                simp only [toL, toV, oString, g1, hcell', f1]
                rw [if_pos ⟨by omega, trivial, trivial, hm, by omega, q3⟩, e3]
                simp only [ByteArray_of (sbytes_list cn mm)]
          · cases hr
        · cases hr
      · cases hr
    · cases hr
  · cases hr

theorem ext_ok (N : Nums) : FOK (extX N) (extA N) := by
  intro f a n hx k r hr h H0
  unfold extX at hr
  unfold extA
  by_cases h1 : f = N.index
  · rw [if_pos h1] at hr ⊢; exact xIndex_ok hr H0
  · rw [if_neg h1] at hr ⊢
    by_cases h2 : f = N.count
    · rw [if_pos h2] at hr ⊢; exact xCount_ok hr H0
    · rw [if_neg h2] at hr ⊢
      by_cases h3 : f = N.check
      · rw [if_pos h3] at hr ⊢; exact xCheck_ok hr H0
      · rw [if_neg h3] at hr ⊢
        by_cases h4 : f = N.str
        · rw [if_pos h4] at hr ⊢; exact xStr_ok hr H0
        · rw [if_neg h4] at hr; cases hr

end
end Go.Abs
