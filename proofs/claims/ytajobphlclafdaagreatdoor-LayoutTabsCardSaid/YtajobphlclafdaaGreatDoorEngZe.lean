import Derived.Test.YtajobphlclafdaaGreatDoorEngZd
set_option linter.unusedVariables false
set_option linter.unusedSimpArgs false
/-! The quick machine's code against the abstract machine's. -/
namespace Go.Abs
set_option linter.unusedVariables false
noncomputable section

/-- What follows a step. -/
def OutT (res : Option (VT × H)) (k : KT) (r : XV) : Prop := ∃ tx' n' hx' t' h', res = some (t', h') ∧ TX tx' t' ∧ HX n' hx' h' ∧ k tx' n' hx' = some r

def okI (N : Nat) : XI → AInstr → Bool
  | .set d o, ⟨some d', none, a⟩ => Nat.beq (np d) d' && Nat.ble (d' + 1) N && okOp o a
  | .eff o, ⟨none, none, a⟩ => okOp o a
  | .gset g b d o, ⟨some d', some (g', b'), a⟩ => Nat.beq (np g) g' && (b == b') && Nat.beq (np d) d' && Nat.ble (d' + 1) N && okOp o a
  | .geff g b o, ⟨none, some (g', b'), a⟩ => Nat.beq (np g) g' && (b == b') && okOp o a
  | _, _ => false

theorem xgd_spec {g : XV} {b : Bool} {k : Bool → R} {r : XV} (hk : xgd g b k = some r) : ∃ c, (∀ t : VT, ∀ d, t.get d = toV g → wantedA t (some (d, b)) = some c) ∧ k c = some r := by
  cases g <;> first | (cases hk; done) | skip
  · refine ⟨false, fun t d h => ?_, hk⟩
    simp only [wantedA, h, toV, skipv]
  · rename_i c
    refine ⟨_, fun t d h => ?_, hk⟩
    simp only [wantedA, h, toV, bnot_eq]
    cases b <;> cases c <;> rfl

theorem boolrec_cases {c : Bool} {a b : R} {r : XV} (h : Bool.rec (motive := fun _ => R) a b c = some r) : (c = false ∧ a = some r) ∨ (c = true ∧ b = some r) := by
  cases c with
  | false => exact .inl ⟨rfl, h⟩
  | true => exact .inr ⟨rfl, h⟩

theorem xi_ok {F : XF} {FA : FF} (hF : FOK F FA) {N : Nat} {i : XI} {x : AInstr} (hk : okI N i x = true) {tx : Tm} {t : VT} (ht : TX tx t) {n : Pb} {hx : Hp} {h : H} (H0 : HX n hx h) {k : KT} {r : XV} (hr : xi i F tx n hx k = some r) : OutT (stepA FA N x t h) k r := by
  unfold okI at hk
  split at hk
  · simp only [Bool.and_eq_true, beq_iff, ble_iff] at hk
    obtain ⟨⟨rfl, h2⟩, h3⟩ := hk
    obtain ⟨vx, n', hx', h', e1, e2, e3⟩ := xop_ok hF h3 ht H0 hr
    refine ⟨_, n', hx', _, h', ?_, ht.put _ rfl, e2, e3⟩
    simp only [stepA, wantedA, e1, putA]
    rw [if_pos (by omega)]
  · obtain ⟨vx, n', hx', h', e1, e2, e3⟩ := xop_ok hF hk ht H0 hr
    refine ⟨_, n', hx', _, h', ?_, ht, e2, e3⟩
    simp only [stepA, wantedA, e1, putA]
  · simp only [Bool.and_eq_true, beq_iff, ble_iff, beq_iff_eq] at hk
    obtain ⟨⟨⟨⟨rfl, rfl⟩, rfl⟩, h2⟩, h3⟩ := hk
    obtain ⟨c, hw, hc⟩ := xgd_spec hr
    have hw' := hw t _ (ht _).symm
    rcases boolrec_cases hc with ⟨rfl, hc⟩ | ⟨rfl, hc⟩
    · refine ⟨_, n, hx, _, h, ?_, ht.put _ (v := .sk) rfl, H0, hc⟩
      simp only [stepA, hw', putA]
      rw [if_pos (by omega)]
      rfl
    · obtain ⟨vx, n', hx', h', e1, e2, e3⟩ := xop_ok hF h3 ht H0 hc
      refine ⟨_, n', hx', _, h', ?_, ht.put _ rfl, e2, e3⟩
      simp only [stepA, hw', e1, putA]
      rw [if_pos (by omega)]
  · simp only [Bool.and_eq_true, beq_iff, beq_iff_eq] at hk
    obtain ⟨⟨rfl, rfl⟩, h3⟩ := hk
    obtain ⟨c, hw, hc⟩ := xgd_spec hr
    have hw' := hw t _ (ht _).symm
    rcases boolrec_cases hc with ⟨rfl, hc⟩ | ⟨rfl, hc⟩
    · refine ⟨_, n, hx, _, h, ?_, ht, H0, hc⟩
      simp only [stepA, hw', putA]
    · obtain ⟨vx, n', hx', h', e1, e2, e3⟩ := xop_ok hF h3 ht H0 hc
      refine ⟨_, n', hx', _, h', ?_, ht, e2, e3⟩
      simp only [stepA, hw', e1, putA]
  · cases hk

def okIs (N : Nat) : List XI → List AInstr → Bool
  | [], [] => true
  | i :: l, x :: m => okI N i x && okIs N l m
  | _, _ => false

theorem xis_ok {F : XF} {FA : FF} (hF : FOK F FA) {N : Nat} : ∀ {l : List XI} {m : List AInstr}, okIs N l m = true → ∀ {tx : Tm} {t : VT} {n : Pb} {hx : Hp} {h : H} {k : KT} {r : XV}, TX tx t → HX n hx h → xis l F tx n hx k = some r → OutT (opsA FA N m t h) k r
  | [], [], _, tx, t, n, hx, h, k, r, ht, H0, hr => ⟨tx, n, hx, t, h, rfl, ht, H0, hr⟩
  | i :: l, x :: m, hk, tx, t, n, hx, h, k, r, ht, H0, hr => by
    simp only [okIs, Bool.and_eq_true] at hk
    obtain ⟨tx', n', hx', t', h', e1, e2, e3, e4⟩ := xi_ok hF hk.1 ht H0 (show xi i F tx n hx (fun t n h => xis l F t n h k) = some r from hr)
    obtain ⟨tx2, n2, hx2, t2, h2, d1, d2, d3, d4⟩ := xis_ok hF hk.2 e2 e3 e4
    exact ⟨tx2, n2, hx2, t2, h2, by simp only [opsA, e1, d1], d2, d3, d4⟩
  | [], _ :: _, h, _, _, _, _, _, _, _, _, _, _ => by cases h
  | _ :: _, [], h, _, _, _, _, _, _, _, _, _, _ => by cases h

end
end Go.Abs
