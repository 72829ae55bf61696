/-
  DERIVED. GIVEN WITH THE SEED: THE CARDS: each row of YtjcckafjopjdbaaDoorRows.lean that lists a variable, with what it lists TIED to the program's text (the seventh form; the later family's looks); each row that meets fmt, with fmt's text TOLD by the authors' own Lean function (tested against real Go, not proved from fmt's source: count such statements apart). THE CARD IS WHAT COUNTS. Prove the row's statement (the work); the ties are given (YtjcckafjopjdbaaDoorTie.lean); close each card by the builder's one call (the guide's Derived/Test/ToyasCard.lean, 'card_holds'). Laid BY PROGRAM, IN A SANDBOX (cutbox-door.mjs). By AI agents, Wed Nov 11 2026. No macro, syntax, notation, axiom, sorry.
-/
import Derived.Test.YtjcckafjopjdbaaDoorRows
import GoSem.ClaimSeven
namespace Go.Proofs.YtjcckafjopjdbaaDoor
namespace Rows

/-- THE TIED CARD OF 'palatinelaw12.DnReads'. -/
def dnReadsCard : Claim7 := { stood := { row := dnReadsRow, standIns := [], harness := (true, "a29ff6899efaecc54b2e24436d223cb250fd410ec415138c34cbdb075d4965b7"), looks := false }, kinds := [], alts := [], laidByText := true, laidKinds := [.data, .pinned], laidTests := true, laidLooks := .later }
def DnReadsCardSaid : Prop := Claim7.holds Tryd.pinned (.plain (OpenSpec.ofChange dnReadsSpec)) dnReadsCard

/-- THE TIED CARD OF 'palatinelaw12.DnOrder'. -/
def dnOrderCard : Claim7 := { stood := { row := dnOrderRow, standIns := [], harness := (true, "a29ff6899efaecc54b2e24436d223cb250fd410ec415138c34cbdb075d4965b7"), looks := false }, kinds := [], alts := [], laidByText := true, laidKinds := [.data, .pinned], laidTests := true, laidLooks := .later }
def DnOrderCardSaid : Prop := Claim7.holds Tryd.pinned (.plain (OpenSpec.ofChange dnOrderSpec)) dnOrderCard

/-- THE TIED CARD OF 'palatinelaw12.DnFolds'. -/
def dnFoldsCard : Claim7 := { stood := { row := dnFoldsRow, standIns := [], harness := (true, "a29ff6899efaecc54b2e24436d223cb250fd410ec415138c34cbdb075d4965b7"), looks := false }, kinds := [], alts := [], laidByText := true, laidKinds := [.data, .pinned], laidTests := true, laidLooks := .later }
def DnFoldsCardSaid : Prop := Claim7.holds Tryd.pinned (.plain (OpenSpec.ofChange dnFoldsSpec)) dnFoldsCard

/-- THE TIED CARD OF 'palatinelaw12.DnJoins'. -/
def dnJoinsCard : Claim7 := { stood := { row := dnJoinsRow, standIns := [], harness := (true, "a29ff6899efaecc54b2e24436d223cb250fd410ec415138c34cbdb075d4965b7"), looks := false }, kinds := [], alts := [], laidByText := true, laidKinds := [.data, .pinned], laidTests := true, laidLooks := .later }
def DnJoinsCardSaid : Prop := Claim7.holds Tryd.pinned (.plain (OpenSpec.ofChange dnJoinsSpec)) dnJoinsCard

/-- THE TIED CARD OF 'palatinelaw12.DnBack'. -/
def dnBackCard : Claim7 := { stood := { row := dnBackRow, standIns := [], harness := (true, "a29ff6899efaecc54b2e24436d223cb250fd410ec415138c34cbdb075d4965b7"), looks := false }, kinds := [], alts := [], laidByText := true, laidKinds := [.data, .pinned], laidTests := true, laidLooks := .later }
def DnBackCardSaid : Prop := Claim7.holds Tryd.pinned (.plain (OpenSpec.ofChange dnBackSpec)) dnBackCard

/-- THE TIED CARD OF 'palatinelaw12.DnKeys'. -/
def dnKeysCard : Claim7 := { stood := { row := dnKeysRow, standIns := [], harness := (true, "a29ff6899efaecc54b2e24436d223cb250fd410ec415138c34cbdb075d4965b7"), looks := false }, kinds := [], alts := [], laidByText := true, laidKinds := [.data, .pinned], laidTests := true, laidLooks := .later }
def DnKeysCardSaid : Prop := Claim7.holds Tryd.pinned (.plain (OpenSpec.ofChange dnKeysSpec)) dnKeysCard

/-- THE SECOND FORM's CARD OF 'palatinelaw12.DnReads'. -/
def dnReadsUptoCard : Claim7 := { stood := { row := dnReadsUptoRow, standIns := [], harness := (true, "a29ff6899efaecc54b2e24436d223cb250fd410ec415138c34cbdb075d4965b7"), looks := false }, kinds := [], alts := [], laidByText := true, laidKinds := [.data, .pinned], laidTests := true, laidLooks := .later }
def DnReadsUptoCardSaid : Prop := Claim7.holds Tryd.pinned (.plain (OpenSpec.upto dnReadsSpec)) dnReadsUptoCard

/-- THE SECOND FORM's CARD OF 'palatinelaw12.DnOrder'. -/
def dnOrderUptoCard : Claim7 := { stood := { row := dnOrderUptoRow, standIns := [], harness := (true, "a29ff6899efaecc54b2e24436d223cb250fd410ec415138c34cbdb075d4965b7"), looks := false }, kinds := [], alts := [], laidByText := true, laidKinds := [.data, .pinned], laidTests := true, laidLooks := .later }
def DnOrderUptoCardSaid : Prop := Claim7.holds Tryd.pinned (.plain (OpenSpec.upto dnOrderSpec)) dnOrderUptoCard

/-- THE SECOND FORM's CARD OF 'palatinelaw12.DnFolds'. -/
def dnFoldsUptoCard : Claim7 := { stood := { row := dnFoldsUptoRow, standIns := [], harness := (true, "a29ff6899efaecc54b2e24436d223cb250fd410ec415138c34cbdb075d4965b7"), looks := false }, kinds := [], alts := [], laidByText := true, laidKinds := [.data, .pinned], laidTests := true, laidLooks := .later }
def DnFoldsUptoCardSaid : Prop := Claim7.holds Tryd.pinned (.plain (OpenSpec.upto dnFoldsSpec)) dnFoldsUptoCard

/-- THE SECOND FORM's CARD OF 'palatinelaw12.DnJoins'. -/
def dnJoinsUptoCard : Claim7 := { stood := { row := dnJoinsUptoRow, standIns := [], harness := (true, "a29ff6899efaecc54b2e24436d223cb250fd410ec415138c34cbdb075d4965b7"), looks := false }, kinds := [], alts := [], laidByText := true, laidKinds := [.data, .pinned], laidTests := true, laidLooks := .later }
def DnJoinsUptoCardSaid : Prop := Claim7.holds Tryd.pinned (.plain (OpenSpec.upto dnJoinsSpec)) dnJoinsUptoCard

/-- THE SECOND FORM's CARD OF 'palatinelaw12.DnBack'. -/
def dnBackUptoCard : Claim7 := { stood := { row := dnBackUptoRow, standIns := [], harness := (true, "a29ff6899efaecc54b2e24436d223cb250fd410ec415138c34cbdb075d4965b7"), looks := false }, kinds := [], alts := [], laidByText := true, laidKinds := [.data, .pinned], laidTests := true, laidLooks := .later }
def DnBackUptoCardSaid : Prop := Claim7.holds Tryd.pinned (.plain (OpenSpec.upto dnBackSpec)) dnBackUptoCard

/-- THE SECOND FORM's CARD OF 'palatinelaw12.DnKeys'. -/
def dnKeysUptoCard : Claim7 := { stood := { row := dnKeysUptoRow, standIns := [], harness := (true, "a29ff6899efaecc54b2e24436d223cb250fd410ec415138c34cbdb075d4965b7"), looks := false }, kinds := [], alts := [], laidByText := true, laidKinds := [.data, .pinned], laidTests := true, laidLooks := .later }
def DnKeysUptoCardSaid : Prop := Claim7.holds Tryd.pinned (.plain (OpenSpec.upto dnKeysSpec)) dnKeysUptoCard
end Rows
end Go.Proofs.YtjcckafjopjdbaaDoor
