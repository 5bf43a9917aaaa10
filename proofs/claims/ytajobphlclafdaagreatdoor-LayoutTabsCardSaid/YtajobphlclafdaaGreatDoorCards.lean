/-
  DERIVED. GIVEN WITH THE SEED: THE CARDS: each row of YtajobphlclafdaaGreatDoorRows.lean that lists a variable, with what it lists TIED to the program's text (the seventh form; the later family's looks); each row that meets fmt, with fmt's text TOLD by the authors' own Lean function (tested against real Go, not proved from fmt's source: count such statements apart). THE CARD IS WHAT COUNTS. Prove the row's statement (the work); the ties are given (YtajobphlclafdaaGreatDoorTie.lean); close each card by the builder's one call (the guide's Derived/Test/ToyasCard.lean, 'card_holds'). Laid BY PROGRAM, IN A SANDBOX (cutbox-door.mjs). By AI agents, Wed Nov 11 2026. No macro, syntax, notation, axiom, sorry.
-/
import Derived.Test.YtajobphlclafdaaGreatDoorRows
import GoSem.ClaimSeven
namespace Go.Proofs.YtajobphlclafdaaGreatDoor
namespace Rows

/-- THE TIED CARD OF 'recensionlaw18.LayoutTurn'. -/
def layoutTurnCard : Claim7 := { stood := { row := layoutTurnRow, standIns := [], harness := (true, "bea79260c47998d93f42494ad8aac1870974d3bd162b4f1bcef3e08334e82bfd"), looks := false }, kinds := [], alts := [], laidByText := true, laidKinds := [.data, .pinned], laidTests := true, laidLooks := .later }
def LayoutTurnCardSaid : Prop := Claim7.holds Tryz.pinned (.plain (OpenSpec.ofChange layoutTurnSpec)) layoutTurnCard

/-- THE TIED CARD OF 'recensionlaw18.LayoutTabs'. -/
def layoutTabsCard : Claim7 := { stood := { row := layoutTabsRow, standIns := [], harness := (true, "bea79260c47998d93f42494ad8aac1870974d3bd162b4f1bcef3e08334e82bfd"), looks := false }, kinds := [], alts := [], laidByText := true, laidKinds := [.data, .pinned], laidTests := true, laidLooks := .later }
def LayoutTabsCardSaid : Prop := Claim7.holds Tryz.pinned (.plain (OpenSpec.ofChange layoutTabsSpec)) layoutTabsCard

/-- THE TIED CARD OF 'recensionlaw18.LayoutEmpty'. -/
def layoutEmptyCard : Claim7 := { stood := { row := layoutEmptyRow, standIns := [], harness := (true, "bea79260c47998d93f42494ad8aac1870974d3bd162b4f1bcef3e08334e82bfd"), looks := false }, kinds := [], alts := [], laidByText := true, laidKinds := [.data, .pinned], laidTests := true, laidLooks := .later }
def LayoutEmptyCardSaid : Prop := Claim7.holds Tryz.pinned (.plain (OpenSpec.ofChange layoutEmptySpec)) layoutEmptyCard

/-- THE SECOND FORM's CARD OF 'recensionlaw18.LayoutTurn'. -/
def layoutTurnUptoCard : Claim7 := { stood := { row := layoutTurnUptoRow, standIns := [], harness := (true, "bea79260c47998d93f42494ad8aac1870974d3bd162b4f1bcef3e08334e82bfd"), looks := false }, kinds := [], alts := [], laidByText := true, laidKinds := [.data, .pinned], laidTests := true, laidLooks := .later }
def LayoutTurnUptoCardSaid : Prop := Claim7.holds Tryz.pinned (.plain (OpenSpec.upto layoutTurnSpec)) layoutTurnUptoCard

/-- THE SECOND FORM's CARD OF 'recensionlaw18.LayoutTabs'. -/
def layoutTabsUptoCard : Claim7 := { stood := { row := layoutTabsUptoRow, standIns := [], harness := (true, "bea79260c47998d93f42494ad8aac1870974d3bd162b4f1bcef3e08334e82bfd"), looks := false }, kinds := [], alts := [], laidByText := true, laidKinds := [.data, .pinned], laidTests := true, laidLooks := .later }
def LayoutTabsUptoCardSaid : Prop := Claim7.holds Tryz.pinned (.plain (OpenSpec.upto layoutTabsSpec)) layoutTabsUptoCard

/-- THE SECOND FORM's CARD OF 'recensionlaw18.LayoutEmpty'. -/
def layoutEmptyUptoCard : Claim7 := { stood := { row := layoutEmptyUptoRow, standIns := [], harness := (true, "bea79260c47998d93f42494ad8aac1870974d3bd162b4f1bcef3e08334e82bfd"), looks := false }, kinds := [], alts := [], laidByText := true, laidKinds := [.data, .pinned], laidTests := true, laidLooks := .later }
def LayoutEmptyUptoCardSaid : Prop := Claim7.holds Tryz.pinned (.plain (OpenSpec.upto layoutEmptySpec)) layoutEmptyUptoCard
end Rows
end Go.Proofs.YtajobphlclafdaaGreatDoor
