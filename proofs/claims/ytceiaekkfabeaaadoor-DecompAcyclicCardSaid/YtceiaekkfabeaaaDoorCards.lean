/-
  DERIVED. GIVEN WITH THE SEED: THE CARDS: each row of YtceiaekkfabeaaaDoorRows.lean that lists a variable, with what it lists TIED to the program's text (the seventh form; the later family's looks); each row that meets fmt, with fmt's text TOLD by the authors' own Lean function (tested against real Go, not proved from fmt's source: count such statements apart). THE CARD IS WHAT COUNTS. Prove the row's statement (the work); the ties are given (YtceiaekkfabeaaaDoorTie.lean); close each card by the builder's one call (the guide's Derived/Test/ToyasCard.lean, 'card_holds'). Laid BY PROGRAM, IN A SANDBOX (cutbox-door.mjs). By AI agents, Wed Nov 11 2026. No macro, syntax, notation, axiom, sorry.
-/
import Derived.Test.YtceiaekkfabeaaaDoorRows
import GoSem.ClaimSeven
namespace Go.Proofs.YtceiaekkfabeaaaDoor
namespace Rows

/-- THE TIED CARD OF 'colanderlaw21.DecompCovers'. -/
def decompCoversCard : Claim7 := { stood := { row := decompCoversRow, standIns := [], harness := (true, "8ae62c67c3160b6a57d9a8d7976e4d867f227565b095ef361f69c3d7b5f7092e"), looks := true }, kinds := [], alts := [], laidByText := true, laidKinds := [.data], laidTests := true, laidLooks := .later }
def DecompCoversCardSaid : Prop := Claim7.holds Tryd.pinned (.plain (OpenSpec.ofChange decompCoversSpec)) decompCoversCard

/-- THE TIED CARD OF 'colanderlaw21.DecompOf'. -/
def decompOfCard : Claim7 := { stood := { row := decompOfRow, standIns := [], harness := (true, "8ae62c67c3160b6a57d9a8d7976e4d867f227565b095ef361f69c3d7b5f7092e"), looks := true }, kinds := [], alts := [], laidByText := true, laidKinds := [.data], laidTests := true, laidLooks := .later }
def DecompOfCardSaid : Prop := Claim7.holds Tryd.pinned (.plain (OpenSpec.ofChange decompOfSpec)) decompOfCard

/-- THE TIED CARD OF 'colanderlaw21.DecompMay'. -/
def decompMayCard : Claim7 := { stood := { row := decompMayRow, standIns := [], harness := (true, "8ae62c67c3160b6a57d9a8d7976e4d867f227565b095ef361f69c3d7b5f7092e"), looks := true }, kinds := [], alts := [], laidByText := true, laidKinds := [.data], laidTests := true, laidLooks := .later }
def DecompMayCardSaid : Prop := Claim7.holds Tryd.pinned (.plain (OpenSpec.ofChange decompMaySpec)) decompMayCard

/-- THE TIED CARD OF 'colanderlaw21.DecompHomes'. -/
def decompHomesCard : Claim7 := { stood := { row := decompHomesRow, standIns := [], harness := (true, "8ae62c67c3160b6a57d9a8d7976e4d867f227565b095ef361f69c3d7b5f7092e"), looks := true }, kinds := [], alts := [], laidByText := true, laidKinds := [.data], laidTests := true, laidLooks := .later }
def DecompHomesCardSaid : Prop := Claim7.holds Tryd.pinned (.plain (OpenSpec.ofChange decompHomesSpec)) decompHomesCard

/-- THE TIED CARD OF 'colanderlaw21.DecompAcyclic'. -/
def decompAcyclicCard : Claim7 := { stood := { row := decompAcyclicRow, standIns := [], harness := (true, "8ae62c67c3160b6a57d9a8d7976e4d867f227565b095ef361f69c3d7b5f7092e"), looks := true }, kinds := [], alts := [], laidByText := true, laidKinds := [.data], laidTests := true, laidLooks := .later }
def DecompAcyclicCardSaid : Prop := Claim7.holds Tryd.pinned (.plain (OpenSpec.ofChange decompAcyclicSpec)) decompAcyclicCard

/-- THE SECOND FORM's CARD OF 'colanderlaw21.DecompCovers'. -/
def decompCoversUptoCard : Claim7 := { stood := { row := decompCoversUptoRow, standIns := [], harness := (true, "8ae62c67c3160b6a57d9a8d7976e4d867f227565b095ef361f69c3d7b5f7092e"), looks := true }, kinds := [], alts := [], laidByText := true, laidKinds := [.data], laidTests := true, laidLooks := .later }
def DecompCoversUptoCardSaid : Prop := Claim7.holds Tryd.pinned (.plain (OpenSpec.upto decompCoversSpec)) decompCoversUptoCard

/-- THE SECOND FORM's CARD OF 'colanderlaw21.DecompOf'. -/
def decompOfUptoCard : Claim7 := { stood := { row := decompOfUptoRow, standIns := [], harness := (true, "8ae62c67c3160b6a57d9a8d7976e4d867f227565b095ef361f69c3d7b5f7092e"), looks := true }, kinds := [], alts := [], laidByText := true, laidKinds := [.data], laidTests := true, laidLooks := .later }
def DecompOfUptoCardSaid : Prop := Claim7.holds Tryd.pinned (.plain (OpenSpec.upto decompOfSpec)) decompOfUptoCard

/-- THE SECOND FORM's CARD OF 'colanderlaw21.DecompMay'. -/
def decompMayUptoCard : Claim7 := { stood := { row := decompMayUptoRow, standIns := [], harness := (true, "8ae62c67c3160b6a57d9a8d7976e4d867f227565b095ef361f69c3d7b5f7092e"), looks := true }, kinds := [], alts := [], laidByText := true, laidKinds := [.data], laidTests := true, laidLooks := .later }
def DecompMayUptoCardSaid : Prop := Claim7.holds Tryd.pinned (.plain (OpenSpec.upto decompMaySpec)) decompMayUptoCard

/-- THE SECOND FORM's CARD OF 'colanderlaw21.DecompHomes'. -/
def decompHomesUptoCard : Claim7 := { stood := { row := decompHomesUptoRow, standIns := [], harness := (true, "8ae62c67c3160b6a57d9a8d7976e4d867f227565b095ef361f69c3d7b5f7092e"), looks := true }, kinds := [], alts := [], laidByText := true, laidKinds := [.data], laidTests := true, laidLooks := .later }
def DecompHomesUptoCardSaid : Prop := Claim7.holds Tryd.pinned (.plain (OpenSpec.upto decompHomesSpec)) decompHomesUptoCard

/-- THE SECOND FORM's CARD OF 'colanderlaw21.DecompAcyclic'. -/
def decompAcyclicUptoCard : Claim7 := { stood := { row := decompAcyclicUptoRow, standIns := [], harness := (true, "8ae62c67c3160b6a57d9a8d7976e4d867f227565b095ef361f69c3d7b5f7092e"), looks := true }, kinds := [], alts := [], laidByText := true, laidKinds := [.data], laidTests := true, laidLooks := .later }
def DecompAcyclicUptoCardSaid : Prop := Claim7.holds Tryd.pinned (.plain (OpenSpec.upto decompAcyclicSpec)) decompAcyclicUptoCard
end Rows
end Go.Proofs.YtceiaekkfabeaaaDoor
