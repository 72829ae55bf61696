/-
  DERIVED. GIVEN WITH THE SEED: THE CARDS: each row of YtmmjlgocihhkcaaGreatDoorRows.lean that lists a variable, with what it lists TIED to the program's text (the seventh form; the later family's looks); each row that meets fmt, with fmt's text TOLD by the authors' own Lean function (tested against real Go, not proved from fmt's source: count such statements apart). THE CARD IS WHAT COUNTS. Prove the row's statement (the work); the ties are given (YtmmjlgocihhkcaaGreatDoorTie.lean); close each card by the builder's one call (the guide's Derived/Test/ToyasCard.lean, 'card_holds'). Laid BY PROGRAM, IN A SANDBOX (cutbox-door.mjs). By AI agents, Wed Nov 11 2026. No macro, syntax, notation, axiom, sorry.
-/
import Derived.Test.YtmmjlgocihhkcaaGreatDoorRows
import GoSem.ClaimSeven
namespace Go.Proofs.YtmmjlgocihhkcaaGreatDoor
namespace Rows

/-- THE TIED CARD OF 'palatinelaw19.ChangesView'. -/
def changesViewCard : Claim7 := { stood := { row := changesViewRow, standIns := [], harness := (true, "6315f22957444a45070dc45421b93ab1c8334ee7771bb943e344e6178487a533"), looks := true }, kinds := [], alts := [], laidByText := true, laidKinds := [.data, .pinned], laidTests := true, laidLooks := .later }
def ChangesViewCardSaid : Prop := Claim7.holds Tryz.pinned (.plain (OpenSpec.ofChange changesViewSpec)) changesViewCard

/-- THE TIED CARD OF 'palatinelaw19.ChangesDiff'. -/
def changesDiffCard : Claim7 := { stood := { row := changesDiffRow, standIns := [], harness := (true, "6315f22957444a45070dc45421b93ab1c8334ee7771bb943e344e6178487a533"), looks := true }, kinds := [], alts := [], laidByText := true, laidKinds := [.data, .pinned], laidTests := true, laidLooks := .later }
def ChangesDiffCardSaid : Prop := Claim7.holds Tryz.pinned (.plain (OpenSpec.ofChange changesDiffSpec)) changesDiffCard

/-- THE TIED CARD OF 'palatinelaw19.ChangesBack'. -/
def changesBackCard : Claim7 := { stood := { row := changesBackRow, standIns := [], harness := (true, "6315f22957444a45070dc45421b93ab1c8334ee7771bb943e344e6178487a533"), looks := true }, kinds := [], alts := [], laidByText := true, laidKinds := [.data, .pinned], laidTests := true, laidLooks := .later }
def ChangesBackCardSaid : Prop := Claim7.holds Tryz.pinned (.plain (OpenSpec.ofChange changesBackSpec)) changesBackCard

/-- THE TIED CARD OF 'palatinelaw19.ChangesConfined'. -/
def changesConfinedCard : Claim7 := { stood := { row := changesConfinedRow, standIns := [], harness := (true, "6315f22957444a45070dc45421b93ab1c8334ee7771bb943e344e6178487a533"), looks := true }, kinds := [], alts := [], laidByText := true, laidKinds := [.data, .pinned], laidTests := true, laidLooks := .later }
def ChangesConfinedCardSaid : Prop := Claim7.holds Tryz.pinned (.plain (OpenSpec.ofChange changesConfinedSpec)) changesConfinedCard

/-- THE TIED CARD OF 'palatinelaw19.ChangesOrder'. -/
def changesOrderCard : Claim7 := { stood := { row := changesOrderRow, standIns := [], harness := (true, "6315f22957444a45070dc45421b93ab1c8334ee7771bb943e344e6178487a533"), looks := true }, kinds := [], alts := [], laidByText := true, laidKinds := [.data, .pinned], laidTests := true, laidLooks := .later }
def ChangesOrderCardSaid : Prop := Claim7.holds Tryz.pinned (.plain (OpenSpec.ofChange changesOrderSpec)) changesOrderCard

/-- THE SECOND FORM's CARD OF 'palatinelaw19.ChangesView'. -/
def changesViewUptoCard : Claim7 := { stood := { row := changesViewUptoRow, standIns := [], harness := (true, "6315f22957444a45070dc45421b93ab1c8334ee7771bb943e344e6178487a533"), looks := true }, kinds := [], alts := [], laidByText := true, laidKinds := [.data, .pinned], laidTests := true, laidLooks := .later }
def ChangesViewUptoCardSaid : Prop := Claim7.holds Tryz.pinned (.plain (OpenSpec.upto changesViewSpec)) changesViewUptoCard

/-- THE SECOND FORM's CARD OF 'palatinelaw19.ChangesDiff'. -/
def changesDiffUptoCard : Claim7 := { stood := { row := changesDiffUptoRow, standIns := [], harness := (true, "6315f22957444a45070dc45421b93ab1c8334ee7771bb943e344e6178487a533"), looks := true }, kinds := [], alts := [], laidByText := true, laidKinds := [.data, .pinned], laidTests := true, laidLooks := .later }
def ChangesDiffUptoCardSaid : Prop := Claim7.holds Tryz.pinned (.plain (OpenSpec.upto changesDiffSpec)) changesDiffUptoCard

/-- THE SECOND FORM's CARD OF 'palatinelaw19.ChangesBack'. -/
def changesBackUptoCard : Claim7 := { stood := { row := changesBackUptoRow, standIns := [], harness := (true, "6315f22957444a45070dc45421b93ab1c8334ee7771bb943e344e6178487a533"), looks := true }, kinds := [], alts := [], laidByText := true, laidKinds := [.data, .pinned], laidTests := true, laidLooks := .later }
def ChangesBackUptoCardSaid : Prop := Claim7.holds Tryz.pinned (.plain (OpenSpec.upto changesBackSpec)) changesBackUptoCard

/-- THE SECOND FORM's CARD OF 'palatinelaw19.ChangesConfined'. -/
def changesConfinedUptoCard : Claim7 := { stood := { row := changesConfinedUptoRow, standIns := [], harness := (true, "6315f22957444a45070dc45421b93ab1c8334ee7771bb943e344e6178487a533"), looks := true }, kinds := [], alts := [], laidByText := true, laidKinds := [.data, .pinned], laidTests := true, laidLooks := .later }
def ChangesConfinedUptoCardSaid : Prop := Claim7.holds Tryz.pinned (.plain (OpenSpec.upto changesConfinedSpec)) changesConfinedUptoCard

/-- THE SECOND FORM's CARD OF 'palatinelaw19.ChangesOrder'. -/
def changesOrderUptoCard : Claim7 := { stood := { row := changesOrderUptoRow, standIns := [], harness := (true, "6315f22957444a45070dc45421b93ab1c8334ee7771bb943e344e6178487a533"), looks := true }, kinds := [], alts := [], laidByText := true, laidKinds := [.data, .pinned], laidTests := true, laidLooks := .later }
def ChangesOrderUptoCardSaid : Prop := Claim7.holds Tryz.pinned (.plain (OpenSpec.upto changesOrderSpec)) changesOrderUptoCard
end Rows
end Go.Proofs.YtmmjlgocihhkcaaGreatDoor
