import Derived.Test.YtajobphlclafdaaGreatDoorExtA1
import Derived.Test.YtajobphlclafdaaGreatDoorExtB
set_option linter.unusedVariables false
set_option linter.unusedSimpArgs false
namespace Go.Proofs.YtajobphlclafdaaGreatDoor
open Go.RowKit Go.Abs
set_option linter.unusedVariables false

def StrNil : Prop := ∀ (b o : Nat) (w : World) (h0 : w.cell? ⟨b, o + 1, none⟩ = some (.slice none 0 0)), Calls Tryz.prog 21 #[.pointer (some ⟨b, o, none⟩)] w fun e w' => e = .returned (.string ⟨#[]⟩) ∧ w' = w.drew
def StrSome : Prop := ∀ (b o g q c cells : Nat) (l : List UInt8) (w : World) (h0 : l ≠ []) (c0 : w.cell? ⟨b, o + 1, none⟩ = some (.slice (some ⟨g, q, none⟩) l.length c)) (hc : l.length ≤ c) (hsh : w.shape? g = some (5, cells)) (hn : q + l.length ≤ cells) (h63 : l.length ≤ 9223372036854775807)
    (hcell : ∀ j x, l[j]? = some x → w.cell? ⟨g, q + j, none⟩ = some (.int .u8 x.toNat)),
    Calls Tryz.prog 21 #[.pointer (some ⟨b, o, none⟩)] w fun e w' => e = .returned (.string ⟨l.toArray⟩) ∧ w' = w.drew.freeze ⟨g, q, none⟩ l.length

def lies : List (Nat × Nat × Nat) := [(46, 2, 0), (47, 2, 0), (48, 9, 2), (49, 9, 2)]
theorem lies_ok : ∀ e len o, isIn lies e len o = true → o < len ∧ liesAt Tryz.prog Tryz.prog.depth e (len / Tryz.prog.cellsOf e) o 47 1 = true := by
  intro e len o h
  have h2 : ∀ t ∈ lies, t.2.2 < t.2.1 ∧ liesAt Tryz.prog Tryz.prog.depth t.1 (t.2.1 / Tryz.prog.cellsOf t.1) t.2.2 47 1 = true := by
    intro t ht
    simp only [lies, List.mem_cons, List.not_mem_nil, or_false] at ht
    rcases ht with rfl | rfl | rfl | rfl
    all_goals exact ⟨by decide, by kernel_rfl⟩
  obtain ⟨t, ht, h3⟩ := List.any_eq_true.1 h
  simp only [Bool.and_eq_true, Nat.beq_eq] at h3
  obtain ⟨⟨rfl, rfl⟩, rfl⟩ := h3
  exact h2 t ht

def nums : Nums := { check := 43, str := 21, index := 146, count := 112, T := lies, U := 5 }

theorem good_index {args : List Value} {h : H} {v : Value} {h' : H} (ha : oIndexByte args h = some (v, h')) : CallOk Tryz.prog 146 args h v h' := by
  intro B0 β w cargs hr hargs
  right
  unfold oIndexByte at ha
  split at ha
  · rename_i s c
    split at ha
    · rename_i hc
      cases ha
      cases hargs with
      | cons h1 t => cases t with
        | cons h2 t => cases t with
          | nil =>
            obtain rfl := h1.of_string; obtain rfl := h2.of_int
            refine ⟨_, w, β, ?_, .int _ _, Go1.refl hr⟩
            show (callFunc 146 #[.string s, .int .u8 (.ofNat c)]).run _ w = _
            rw [run_callFunc_extern Tryz.func146 (by kernel_rfl) (by kernel_rfl) (by kernel_rfl) (e := Extern.BytealgIndexByte.indexByte) (by kernel_rfl), Lib.run_indexByteString]
            rw [posOf_zero, ofNat_byte hc]
            rfl
    · cases ha
  · cases ha

theorem good_count {args : List Value} {h : H} {v : Value} {h' : H} (ha : oCount args h = some (v, h')) : CallOk Tryz.prog 112 args h v h' := by
  intro B0 β w cargs hr hargs
  right
  unfold oCount at ha
  split at ha
  · rename_i s c
    split at ha
    · rename_i hc
      cases ha
      cases hargs with
      | cons h1 t => cases t with
        | cons h2 t => cases t with
          | nil =>
            obtain rfl := h1.of_string; obtain rfl := h2.of_int
            refine ⟨_, w, β, ?_, .int _ _, Go1.refl hr⟩
            show (callFunc 112 #[.string s, .int .u8 (.ofNat c)]).run _ w = _
            rw [run_callFunc_extern Tryz.func112 (by kernel_rfl) (by kernel_rfl) (by kernel_rfl) (e := Extern.BytealgCount.count) (by kernel_rfl), Lib.run_countString]
            rw [cntOf_zero, ofNat_byte hc]
            rfl
    · cases ha
  · cases ha

theorem good_check {args : List Value} {h : H} {v : Value} {h' : H} (ha : oCopyCheck lies args h = some (v, h')) : CallOk Tryz.prog 43 args h v h' := by
  intro B0 β w cargs hr hargs
  left
  refine ⟨Go.Proofs.enters_of Tryz.func43 (by kernel_rfl) rfl _ w, ?_⟩
  unfold oCopyCheck at ha
  split at ha
  · rename_i b o
    cases hargs with
    | cons h1 t => cases t with
      | nil =>
        obtain ⟨p, hp, rfl⟩ := h1.of_ptr
        split at ha
        · rename_i c e m hb
          split at ha
          · rename_i hc
            split at ha
            · rename_i hcond
              obtain ⟨rfl, hl⟩ := hcond
              cases ha
              obtain ⟨hol, hlies⟩ := lies_ok _ _ _ hl
              obtain ⟨v', e1, e2⟩ := obj_cell (hr.obj b _ p hb hp) hc
              cases e2
              obtain ⟨hbase, f1, f2, f3⟩ := note_rel (o := o) hr hb hp
              rw [hbase, Nat.zero_add] at e1 ⊢
              refine (check_fresh p.blk o e c.length w e1 f1 f2 hol hlies).mono ?_
              rintro e' w' ⟨rfl, rfl⟩
              exact ⟨_, β, rfl, .undef _, f3⟩
            · cases ha
          · rename_i b' o' hc
            split at ha
            · rename_i hcond
              obtain ⟨rfl, rfl⟩ := hcond
              cases ha
              obtain ⟨v', e1, e2⟩ := obj_cell (hr.obj b _ p hb hp) hc
              obtain ⟨p', hp', rfl⟩ := e2.of_ptr
              rw [hp] at hp'; cases hp'
              refine (check_used p.blk (p.base + o) w e1).mono ?_
              rintro e' w' ⟨rfl, rfl⟩
              exact ⟨_, β, rfl, .undef _, Go1.refl hr⟩
            · cases ha
          · cases ha
        · cases ha
  · cases ha

theorem good_string (hN : StrNil) (hS : StrSome) {args : List Value} {h : H} {v : Value} {h' : H} (ha : oString 5 args h = some (v, h')) : CallOk Tryz.prog 21 args h v h' := by
  intro B0 β w cargs hr hargs
  left
  refine ⟨Go.Proofs.enters_of Tryz.func21 (by kernel_rfl) rfl _ w, ?_⟩
  unfold oString at ha
  split at ha
  · rename_i b o
    cases hargs with
    | cons h1 t => cases t with
      | nil =>
        obtain ⟨p, hp, rfl⟩ := h1.of_ptr
        split at ha
        · rename_i c _ _ hb
          split at ha
          · rename_i hc
            cases ha
            obtain ⟨v', e1, e2⟩ := obj_cell (hr.obj b _ p hb hp) hc
            cases e2
            refine (hN p.blk (p.base + o) w e1).mono ?_
            rintro e' w' ⟨rfl, rfl⟩
            exact ⟨_, β, rfl, .string _, Go1.drew hr⟩
          · rename_i b' o' n e hc
            split at ha
            · rename_i c' t m hb'
              split at ha
              · rename_i hcond
                obtain ⟨hn, rfl, rfl, hm, hl, hbig⟩ := hcond
                split at ha
                · rename_i bs hbs
                  cases ha
                  obtain ⟨v', e1, e2⟩ := obj_cell (hr.obj b _ p hb hp) hc
                  cases e2 with
                  | slice0 => exact absurd rfl hn
                  | slice cc hp' hcc he =>
                    rename_i p'
                    have ho' := hr.obj b' _ p' hb' hp'
                    obtain ⟨arr, t', fz, g1, g2, g3, g4, g5, g6⟩ := ho'
                    obtain rfl := g5 hm
                    have hcells := bytesOf_rel (g3.drop o' |>.take n) hbs
                    have hblen : bs.length = n := by
                      have := congrArg List.length hcells
                      simp only [Lib.byteCells_length] at this
                      rw [← this]
                      have := g3.length
                      simp only [List.length_take, List.length_drop, Array.length_toList] at this ⊢
                      omega
                    subst hblen
                    have hcell : ∀ j x, bs[j]? = some x → w.cell? ⟨p'.blk, p'.base + o' + j, none⟩ = some (.int .u8 x.toNat) := by
                      intro j x hx
                      have hj : j < bs.length := (List.getElem?_eq_some_iff.1 hx).1
                      have h2 := congrArg (·[j]?) hcells
                      simp only [Lib.byteCells, List.getElem?_map, hx, Option.map_some] at h2
                      rw [List.getElem?_take_of_lt hj, List.getElem?_drop, List.getElem?_take_of_lt (by omega), List.getElem?_drop, Array.getElem?_toList] at h2
                      simp only [World.cell?, g1]
                      rw [← Nat.add_assoc] at h2
                      simpa using h2
                    refine (hS p.blk (p.base + o) p'.blk (p'.base + o') cc arr.size bs w (by intro hh; subst hh; exact hn rfl) e1 hcc (by simp [World.shape?, g1]) (by omega) (by omega) hcell).mono ?_
                    rintro e' w' ⟨rfl, rfl⟩
                    exact ⟨_, β, rfl, .string _, freeze_rel hr hb' hp' hm hn hl⟩
                · cases ha
              · cases ha
            · cases ha
          · cases ha
        · cases ha
  · cases ha

theorem good_ext (hN : StrNil) (hS : StrSome) : Go.Abs.Good Tryz.prog (extA nums) := by
  intro f args h v h' ha
  unfold extA at ha
  split at ha
  · rename_i e; subst e; exact good_index ha
  · split at ha
    · rename_i e; subst e; exact good_count ha
    · split at ha
      · rename_i e; subst e; exact good_check ha
      · split at ha
        · rename_i e; subst e; exact good_string hN hS ha
        · cases ha

end Go.Proofs.YtajobphlclafdaaGreatDoor
