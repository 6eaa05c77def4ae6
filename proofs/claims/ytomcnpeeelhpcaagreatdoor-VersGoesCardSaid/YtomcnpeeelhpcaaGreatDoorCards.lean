/-
  DERIVED. GIVEN WITH THE SEED: THE CARDS: each row of YtomcnpeeelhpcaaGreatDoorRows.lean that lists a variable, with what it lists TIED to the program's text (the seventh form; the later family's looks); each row that meets fmt, with fmt's text TOLD by the authors' own Lean function (tested against real Go, not proved from fmt's source: count such statements apart). THE CARD IS WHAT COUNTS. Prove the row's statement (the work); the ties are given (YtomcnpeeelhpcaaGreatDoorTie.lean); close each card by the builder's one call (the guide's Derived/Test/ToyasCard.lean, 'card_holds'). Laid BY PROGRAM, IN A SANDBOX (cutbox-door.mjs). By AI agents, Wed Nov 11 2026. No macro, syntax, notation, axiom, sorry.
-/
import Derived.Test.YtomcnpeeelhpcaaGreatDoorRows
import GoSem.ClaimSeven
namespace Go.Proofs.YtomcnpeeelhpcaaGreatDoor
namespace Rows

/-- THE TIED CARD OF 'pharoslaw12.VersGoes'. -/
def versGoesCard : Claim7 := { stood := { row := versGoesRow, standIns := [], harness := (true, "58fec282027435320a2de770a25363c2f96a0c99ddba85d67d41a63c3c064e00"), looks := true }, kinds := [], alts := [], laidByText := true, laidKinds := [.data], laidTests := true, laidLooks := .later }
def VersGoesCardSaid : Prop := Claim7.holds Tryz.pinned (.plain (OpenSpec.ofChange versGoesSpec)) versGoesCard

/-- THE TIED CARD OF 'pharoslaw12.VersStays'. -/
def versStaysCard : Claim7 := { stood := { row := versStaysRow, standIns := [], harness := (true, "58fec282027435320a2de770a25363c2f96a0c99ddba85d67d41a63c3c064e00"), looks := true }, kinds := [], alts := [], laidByText := true, laidKinds := [.data], laidTests := true, laidLooks := .later }
def VersStaysCardSaid : Prop := Claim7.holds Tryz.pinned (.plain (OpenSpec.ofChange versStaysSpec)) versStaysCard

/-- THE TIED CARD OF 'pharoslaw33.TrustPlays'. -/
def trustPlaysCard : Claim7 := { stood := { row := trustPlaysRow, standIns := [], harness := (true, "58fec282027435320a2de770a25363c2f96a0c99ddba85d67d41a63c3c064e00"), looks := true }, kinds := [], alts := [], laidByText := true, laidKinds := [.data], laidTests := true, laidLooks := .later }
def TrustPlaysCardSaid : Prop := Claim7.holds Tryz.pinned (.plain (OpenSpec.ofChange trustPlaysSpec)) trustPlaysCard

/-- THE TIED CARD OF 'pharoslaw26.ReplicaCerts'. -/
def replicaCertsCard : Claim7 := { stood := { row := replicaCertsRow, standIns := [], harness := (true, "58fec282027435320a2de770a25363c2f96a0c99ddba85d67d41a63c3c064e00"), looks := true }, kinds := [], alts := [], laidByText := true, laidKinds := [.data], laidTests := true, laidLooks := .later }
def ReplicaCertsCardSaid : Prop := Claim7.holds Tryz.pinned (.plain (OpenSpec.ofChange replicaCertsSpec)) replicaCertsCard

/-- THE TIED CARD OF 'pharoslaw26.ReplicaOnce'. -/
def replicaOnceCard : Claim7 := { stood := { row := replicaOnceRow, standIns := [], harness := (true, "58fec282027435320a2de770a25363c2f96a0c99ddba85d67d41a63c3c064e00"), looks := true }, kinds := [], alts := [], laidByText := true, laidKinds := [.data], laidTests := true, laidLooks := .later }
def ReplicaOnceCardSaid : Prop := Claim7.holds Tryz.pinned (.plain (OpenSpec.ofChange replicaOnceSpec)) replicaOnceCard

/-- THE TIED CARD OF 'pharoslaw26.ReplicaFolds'. -/
def replicaFoldsCard : Claim7 := { stood := { row := replicaFoldsRow, standIns := [], harness := (true, "58fec282027435320a2de770a25363c2f96a0c99ddba85d67d41a63c3c064e00"), looks := true }, kinds := [], alts := [], laidByText := true, laidKinds := [.data], laidTests := true, laidLooks := .later }
def ReplicaFoldsCardSaid : Prop := Claim7.holds Tryz.pinned (.plain (OpenSpec.ofChange replicaFoldsSpec)) replicaFoldsCard

/-- THE TIED CARD OF 'pharoslaw26.ReplicaAgree'. -/
def replicaAgreeCard : Claim7 := { stood := { row := replicaAgreeRow, standIns := [], harness := (true, "58fec282027435320a2de770a25363c2f96a0c99ddba85d67d41a63c3c064e00"), looks := true }, kinds := [], alts := [], laidByText := true, laidKinds := [.data], laidTests := true, laidLooks := .later }
def ReplicaAgreeCardSaid : Prop := Claim7.holds Tryz.pinned (.plain (OpenSpec.ofChange replicaAgreeSpec)) replicaAgreeCard

/-- THE SECOND FORM's CARD OF 'pharoslaw12.VersGoes'. -/
def versGoesUptoCard : Claim7 := { stood := { row := versGoesUptoRow, standIns := [], harness := (true, "58fec282027435320a2de770a25363c2f96a0c99ddba85d67d41a63c3c064e00"), looks := true }, kinds := [], alts := [], laidByText := true, laidKinds := [.data], laidTests := true, laidLooks := .later }
def VersGoesUptoCardSaid : Prop := Claim7.holds Tryz.pinned (.plain (OpenSpec.upto versGoesSpec)) versGoesUptoCard

/-- THE SECOND FORM's CARD OF 'pharoslaw12.VersStays'. -/
def versStaysUptoCard : Claim7 := { stood := { row := versStaysUptoRow, standIns := [], harness := (true, "58fec282027435320a2de770a25363c2f96a0c99ddba85d67d41a63c3c064e00"), looks := true }, kinds := [], alts := [], laidByText := true, laidKinds := [.data], laidTests := true, laidLooks := .later }
def VersStaysUptoCardSaid : Prop := Claim7.holds Tryz.pinned (.plain (OpenSpec.upto versStaysSpec)) versStaysUptoCard

/-- THE SECOND FORM's CARD OF 'pharoslaw33.TrustPlays'. -/
def trustPlaysUptoCard : Claim7 := { stood := { row := trustPlaysUptoRow, standIns := [], harness := (true, "58fec282027435320a2de770a25363c2f96a0c99ddba85d67d41a63c3c064e00"), looks := true }, kinds := [], alts := [], laidByText := true, laidKinds := [.data], laidTests := true, laidLooks := .later }
def TrustPlaysUptoCardSaid : Prop := Claim7.holds Tryz.pinned (.plain (OpenSpec.upto trustPlaysSpec)) trustPlaysUptoCard

/-- THE SECOND FORM's CARD OF 'pharoslaw26.ReplicaCerts'. -/
def replicaCertsUptoCard : Claim7 := { stood := { row := replicaCertsUptoRow, standIns := [], harness := (true, "58fec282027435320a2de770a25363c2f96a0c99ddba85d67d41a63c3c064e00"), looks := true }, kinds := [], alts := [], laidByText := true, laidKinds := [.data], laidTests := true, laidLooks := .later }
def ReplicaCertsUptoCardSaid : Prop := Claim7.holds Tryz.pinned (.plain (OpenSpec.upto replicaCertsSpec)) replicaCertsUptoCard

/-- THE SECOND FORM's CARD OF 'pharoslaw26.ReplicaOnce'. -/
def replicaOnceUptoCard : Claim7 := { stood := { row := replicaOnceUptoRow, standIns := [], harness := (true, "58fec282027435320a2de770a25363c2f96a0c99ddba85d67d41a63c3c064e00"), looks := true }, kinds := [], alts := [], laidByText := true, laidKinds := [.data], laidTests := true, laidLooks := .later }
def ReplicaOnceUptoCardSaid : Prop := Claim7.holds Tryz.pinned (.plain (OpenSpec.upto replicaOnceSpec)) replicaOnceUptoCard

/-- THE SECOND FORM's CARD OF 'pharoslaw26.ReplicaFolds'. -/
def replicaFoldsUptoCard : Claim7 := { stood := { row := replicaFoldsUptoRow, standIns := [], harness := (true, "58fec282027435320a2de770a25363c2f96a0c99ddba85d67d41a63c3c064e00"), looks := true }, kinds := [], alts := [], laidByText := true, laidKinds := [.data], laidTests := true, laidLooks := .later }
def ReplicaFoldsUptoCardSaid : Prop := Claim7.holds Tryz.pinned (.plain (OpenSpec.upto replicaFoldsSpec)) replicaFoldsUptoCard

/-- THE SECOND FORM's CARD OF 'pharoslaw26.ReplicaAgree'. -/
def replicaAgreeUptoCard : Claim7 := { stood := { row := replicaAgreeUptoRow, standIns := [], harness := (true, "58fec282027435320a2de770a25363c2f96a0c99ddba85d67d41a63c3c064e00"), looks := true }, kinds := [], alts := [], laidByText := true, laidKinds := [.data], laidTests := true, laidLooks := .later }
def ReplicaAgreeUptoCardSaid : Prop := Claim7.holds Tryz.pinned (.plain (OpenSpec.upto replicaAgreeSpec)) replicaAgreeUptoCard
end Rows
end Go.Proofs.YtomcnpeeelhpcaaGreatDoor
