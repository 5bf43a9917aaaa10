import Derived.Test.YtajobphlclafdaaGreatDoorEngZi
set_option linter.unusedVariables false
set_option linter.unusedSimpArgs false
/-! A call without arguments that is told: it gives true and leaves all as it was. -/
namespace Go.Abs
set_option linter.unusedVariables false
noncomputable section
def extAT (g : Nat) (N : Nums) : FF := fun f args h => if f = g then (match args with
  | [] => some (.bool true, h)
  | _ => none) else extA N f args h
def extXT (g : Nat) (N : Nums) (f : Nat) (a : XV) (n : Pb) (h : Hp) (k : K) : R :=
  if f = g then (match a with
    | .nil => k (.b true) n h
    | _ => none) else extX N f a n h k
theorem extT_ok (g : Nat) (N : Nums) : FOK (extXT g N) (extAT g N) := by
  intro f a n hx k r hr h H0
  unfold extXT at hr
  unfold extAT
  by_cases e : f = g
  · rw [if_pos e] at hr ⊢
    split at hr
    · exact ⟨.b true, n, hx, h, by simp only [toL, toV], H0, hr⟩
    · cases hr
  · rw [if_neg e] at hr ⊢
    exact ext_ok N f a n hx k r hr h H0

/-- What a call at a fresh heap gives (it changes nothing that was) it gives at every heap. -/
theorem CallOk.any {P : Program} {f : FuncId} {h' : H} (hc : CallOk P f [] h00 (.bool true) h') (he : ∀ w, (callFunc f #[]).run P w = .ok (.enter f #[]) w) (h : H) : CallOk P f [] h (.bool true) h := by
  intro B0 β w cargs hr hargs
  cases hargs
  left
  refine ⟨he w, ?_⟩
  have hw : NG ≤ w.heap.size := by
    have h2 := hr.gl 2 (by decide)
    obtain ⟨e, h2⟩ := h2
    have := hr.glob _ _ h2
    simp only [] at this
    show 3 ≤ _
    omega
  refine (fresh_call hc (fun _ => .nil) (fun β v' hv => hv.of_bool) hw (he w)).mono ?_
  rintro e w' ⟨rfl, hb⟩
  exact ⟨_, β, rfl, .bool _, hr.later hb, fun _ _ => rfl, Nat.le_refl _, fun _ _ _ => rfl, hb.mono hr.size⟩

theorem goodT {P : Program} {g : Nat} {N : Nums} (hE : Good P (extA N)) (hg : ∀ h, CallOk P g [] h (.bool true) h) : Good P (extAT g N) := by
  intro f args h v h' ha
  unfold extAT at ha
  split at ha
  · rename_i e; subst e
    split at ha
    · cases ha; exact hg h
    · cases ha
  · exact hE f args h v h' ha
end
end Go.Abs
