import Derived.Test.YtajobphlclafdaaGreatDoorEngX
import Derived.Test.YtajobphlclafdaaGreatDoorEngL
import Derived.Lib.Bytealg
import Derived.Lib.UnsafeStr
set_option linter.unusedVariables false
set_option linter.unusedSimpArgs false
/-! What is told of some functions: the part without a program. -/
namespace Go.Abs
open Go.RowKit
set_option linter.unusedVariables false

theorem posOf_eq (c : UInt8) : ∀ (l : List UInt8) (i : Nat), posOf c l i = if Lib.indexByte l c = -1 then -1 else Lib.indexByte l c + i
  | [], i => by simp [posOf, Lib.indexByte]
  | b :: l, i => by
    have hge := Lib.indexByte_ge l c
    unfold posOf Lib.indexByte
    by_cases hb : b = c
    · subst hb; simp
    · simp only [hb, if_false, beq_iff_eq]
      rw [posOf_eq c l (i + 1)]
      split
      · simp
      · rename_i h1
        rw [if_neg (by omega)]
        omega

theorem cntOf_eq (c : UInt8) : ∀ (l : List UInt8) (n : Nat), cntOf c l n = n + l.count c
  | [], n => by simp [cntOf]
  | b :: l, n => by
    unfold cntOf
    rw [cntOf_eq c l, List.count_cons]
    by_cases hb : b = c
    · subst hb; simp; omega
    · simp [hb]

theorem ofNat_byte {c : Nat} (h : c < 256) : (Int.ofNat c).toNat.toUInt8 = UInt8.ofNat c := by
  show c.toUInt8 = _
  rfl

theorem bytesOf_rel {β : Ren} : ∀ {l l' : List Value} {bs : List UInt8}, LRel β l l' → bytesOf l = some bs → l' = Lib.byteCells bs
  | [], _, bs, h, hb => by cases h; simp only [bytesOf] at hb; cases hb; rfl
  | v :: l, _, bs, h, hb => by
    cases h with
    | cons hv ht =>
      cases v <;> try (cases hb; done)
      rename_i k n
      cases k <;> try (cases hb; done)
      cases n <;> try (cases hb; done)
      rename_i n
      simp only [bytesOf] at hb
      split at hb
      · rename_i hn
        split at hb
        · rename_i bs' hb'
          cases hb
          have hv' := hv.of_int
          subst hv'
          rw [bytesOf_rel ht hb']
          show _ = Value.int .u8 ((UInt8.ofNat n).toNat : Int) :: _
          have : (UInt8.ofNat n).toNat = n := by simp; omega
          rw [this]; rfl
        · cases hb
      · cases hb

theorem cells_row {e : TypeId} {P : Program} (hc : P.cellsOf e = 1) (count off n : Nat) (hn : off + n ≤ count) : liesAt P P.depth e count off e n = true := by
  have hd : P.depth = (2 * (P.types.size + Made.depth) + 1) + 1 := rfl
  rw [hd]
  simp only [liesAt, Bool.or_eq_true]
  left
  rw [hd]
  simp [rowAt, hc, hn, sameLayout, Nat.mod_one]

theorem run_string_at {P : Program} (w : World) (pt it ty e : TypeId) (hp : P.underlying pt = some (.pointer e)) (hc : P.cellsOf e = 1) (g q cells : Nat) (hsh : w.shape? g = some (e, cells)) (l : List UInt8) (h0 : l ≠ []) (hn : q + l.length ≤ cells) (h63 : l.length ≤ 9223372036854775807)
    (hcell : ∀ j x, l[j]? = some x → w.cell? ⟨g, q + j, none⟩ = some (.int .u8 x.toNat)) :
    (Builtin.unsafeString_ #[pt, it] ty #[.pointer (some ⟨g, q, none⟩), .int .i64 l.length]).run P w = .ok (.string ⟨l.toArray⟩) (w.freeze ⟨g, q, none⟩ l.length) := by
  have hl : l.length ≠ 0 := by simpa using h0
  have hlb := Lib.run_loadBytes (P := P) w l ⟨g, q, none⟩ .empty (fun j x hx => by rw [add_at]; exact hcell j x hx)
  have hlies := cells_row (P := P) hc (cells / P.cellsOf e) q l.length (by rw [hc]; simpa using hn)
  have h63' : ¬ (9223372036854775807 : Int) < (l.length : Int) := by omega
  have hdef : Builtin.unsafeString_ #[pt, it] ty #[.pointer (some ⟨g, q, none⟩), .int .i64 l.length] =
      (do
        let n ← asInt (.int .i64 l.length)
        if n < 0 then runtimePanic (.error "unsafe.String: len out of range")
        if n > IntKind.i64.max then unsupported (.unsafePointer "String: a length above the largest int")
        if n = 0 then pure (.string .empty)
        else if ← variablesAt ⟨g, q, none⟩ (← elemOf pt) n.toNat then do
          let s ← loadBytes ⟨g, q, none⟩ .empty n.toNat
          freeze ⟨g, q, none⟩ n.toNat
          pure (.string s)
        else unsupported (.unsafePointer "String: not so many bytes at ptr")) := rfl
  rw [hdef]
  have hmax : IntKind.i64.max = 9223372036854775807 := rfl
  have hneg : ¬ (l.length : Int) < 0 := by omega
  simp [asInt, asIntOf, hmax, h63', hneg, hl, variablesAt, hsh, elemOf, run_underlying hp, hlies, hlb]

end Go.Abs
