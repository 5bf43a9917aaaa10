import Derived.Test.YtajobphlclafdaaGreatDoorExtG
import Derived.Shelf.Abstract
set_option linter.unusedVariables false
set_option linter.unusedSimpArgs false
/-! Cells of the world behind the abstract heap; what a call of the told functions does to both. -/
namespace Go.Abs
open Go.RowKit
set_option linter.unusedVariables false

theorem posOf_zero (c : UInt8) (l : List UInt8) : posOf c l 0 = Lib.indexByte l c := by
  rw [posOf_eq]
  split
  · rename_i h; exact h.symm
  · simp
theorem cntOf_zero (c : UInt8) (l : List UInt8) : cntOf c l 0 = Lib.countByte l c := by
  rw [cntOf_eq]; simp [Lib.countByte]

section
variable {B0 : Nat} {β : Ren} {h : H} {w : World}

/-- A cell of a block. -/
theorem obj_cell {c : List Value} {e : TypeId} {m : Mode} {p : Place} (ho : ORel β w p (.cells c e m)) {o : Nat} {v : Value} (hv : c[o]? = some v) : ∃ v', w.cell? ⟨p.blk, p.base + o, none⟩ = some v' ∧ VRel β v v' := by
  obtain ⟨arr, t, fz, h1, h2, h3, h4, h5⟩ := ho
  obtain ⟨v', e1, e2⟩ := h3.get hv
  refine ⟨v', ?_, e2⟩
  rw [List.getElem?_take] at e1
  split at e1
  · rw [List.getElem?_drop, Array.getElem?_toList] at e1
    simp [World.cell?, h1, e1]
  · cases e1

/-- A fresh builder notes its place. -/
theorem note_rel (hr : HRel B0 β h w) {b o : Nat} {p : Place} {c : List Value} {e : TypeId} (hb : h.get b = some (.cells c e .var)) (hp : β b = some p) :
    p.base = 0 ∧ w.shape? p.blk = some (e, c.length) ∧ w.frozen? ⟨p.blk, o, none⟩ = false ∧
      Go1 B0 β h w β (h.set b (.cells (c.set o (.pointer (some ⟨b, o, none⟩))) e .var)) (w.setCell ⟨p.blk, o, none⟩ (.pointer (some ⟨p.blk, o, none⟩))) := by
  obtain ⟨arr, t, fz, h1, h2, h3, h4, h5, h6, h7, h8⟩ := hr.obj b _ p hb hp
  obtain ⟨hbase, hsz⟩ := h8 rfl
  obtain rfl := h5 (by intro hh; cases hh)
  have hfz := h6 (.inr rfl)
  subst hfz
  have hu := Upd.setCell w ⟨p.blk, o, none⟩ (.pointer (some ⟨p.blk, o, none⟩))
  refine ⟨hbase, ?_, ?_, Go1.set hr hb hp rfl ?_ (by intro c e hh; cases hh) hu.other hu.size hu.os hu.tape hu.output⟩
  · simp [World.shape?, h1, hsz]
  · simp [World.frozen?, h1]
  · refine ⟨_, t, (0, 0), heap_setCell_same h1 _, by simpa using h2, ?_, by simpa using h4, fun _ => rfl, fun _ => rfl, fun hh => (by cases hh), fun _ => ⟨hbase, by simpa using hsz⟩⟩
    rw [hbase] at h3 ⊢
    simp only [List.drop_zero, List.length_set, Array.toList_setIfInBounds] at h3 ⊢
    have hpv : VRel β (.pointer (some ⟨b, o, none⟩)) (.pointer (some ⟨p.blk, o, none⟩)) := by
      have := VRel.ptr (β := β) (o := o) hp
      rw [hbase, Nat.zero_add] at this; exact this
    have := h3.set o hpv
    rw [← List.take_set] at this
    exact this

/-- Bytes are given to a string: they are frozen. -/
theorem freeze_rel (hr : HRel B0 β h w) {b : Nat} {p : Place} {c : List Value} {e : TypeId} {m : Mode} (hb : h.get b = some (.cells c e m)) (hp : β b = some p) (hm : m ≠ .frg) {o n : Nat} (hn : n ≠ 0) (hl : o + n ≤ c.length) :
    Go1 B0 β h w β (h.set b (.cells c e .frz)) (w.drew.freeze ⟨p.blk, p.base + o, none⟩ n) := by
  obtain ⟨arr, t, fz, h1, h2, h3, h4, h5, h6, h7, h8⟩ := hr.obj b _ p hb hp
  obtain rfl := h5 hm
  have h1' : w.drew.heap[p.blk]? = some (.cells arr t fz) := h1
  have hmine : (AObj.cells c t m).mine = true := by cases m <;> first | rfl | exact absurd rfl hm
  have hf : w.drew.freeze ⟨p.blk, p.base + o, none⟩ n = { w.drew with heap := w.drew.heap.modify p.blk fun
      | .cells c elem (lo, hi) => .cells c elem (if lo == hi then (p.base + o, p.base + o + n) else (min lo (p.base + o), max hi (p.base + o + n)))
      | o => o } := by
    unfold World.freeze
    rw [if_neg hn]
    rfl
  have hup : ∀ k, k ≠ p.blk → (w.drew.freeze ⟨p.blk, p.base + o, none⟩ n).heap[k]? = w.heap[k]? := by
    intro k hk
    rw [hf]
    simp only [Array.getElem?_modify]
    rw [if_neg (fun e => hk e.symm)]
    rfl
  refine Go1.set hr hb hp hmine ?_ (by intro c e hh; cases hh) hup (by rw [hf]; simp only [Array.size_modify]; rfl) (by rw [hf]; rfl) (by rw [hf]; rfl) (by rw [hf]; rfl)
  obtain ⟨lo, hi⟩ := fz
  refine ⟨arr, t, (if lo == hi then (p.base + o, p.base + o + n) else (min lo (p.base + o), max hi (p.base + o + n))), ?_, h2, h3, h4, fun _ => rfl, fun hh => (by rcases hh with hh | hh <;> cases hh), fun _ => ?_, fun hh => (by cases hh)⟩
  · rw [hf]
    simp only [Array.getElem?_modify, if_true, h1', Option.map_some]
  · split
    · simp only []; omega
    · rename_i hne
      have : hi ≤ p.base + c.length := by
        cases m with
        | own => have := h6 (.inl rfl); cases this; simp at hne
        | var => have := h6 (.inr rfl); cases this; simp at hne
        | frz => exact h7 rfl
        | frg => exact absurd rfl hm
      simp only []; omega

end
end Go.Abs
