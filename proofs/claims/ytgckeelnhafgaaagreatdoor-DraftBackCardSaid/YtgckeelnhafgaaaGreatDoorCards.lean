/-
  DERIVED. GIVEN WITH THE SEED: THE CARDS: each row of YtgckeelnhafgaaaGreatDoorRows.lean that lists a variable, with what it lists TIED to the program's text (the seventh form; the later family's looks); each row that meets fmt, with fmt's text TOLD by the authors' own Lean function (tested against real Go, not proved from fmt's source: count such statements apart). THE CARD IS WHAT COUNTS. Prove the row's statement (the work); the ties are given (YtgckeelnhafgaaaGreatDoorTie.lean); close each card by the builder's one call (the guide's Derived/Test/ToyasCard.lean, 'card_holds'). Laid BY PROGRAM, IN A SANDBOX (cutbox-door.mjs). By AI agents, Wed Nov 11 2026. No macro, syntax, notation, axiom, sorry.
-/
import Derived.Test.YtgckeelnhafgaaaGreatDoorRows
import GoSem.ClaimSeven
namespace Go.Proofs.YtgckeelnhafgaaaGreatDoor
namespace Rows

/-- THE TIED CARD OF 'canticlelaw28.DraftNone'. -/
def draftNoneCard : Claim7 := { stood := { row := draftNoneRow, standIns := [], harness := (true, "adf1172fe41c89a9dc88be14d90aa9457a4a48186bb1b1043815e539662356dc"), looks := true }, kinds := [], alts := [], laidByText := true, laidKinds := [.data, .data, .data], laidTests := true, laidLooks := .later }
def DraftNoneCardSaid : Prop := Claim7.holds Tryz.pinned (.plain (OpenSpec.ofChange draftNoneSpec)) draftNoneCard

/-- THE TIED CARD OF 'canticlelaw28.DraftDoes'. -/
def draftDoesCard : Claim7 := { stood := { row := draftDoesRow, standIns := [], harness := (true, "adf1172fe41c89a9dc88be14d90aa9457a4a48186bb1b1043815e539662356dc"), looks := true }, kinds := [], alts := [], laidByText := true, laidKinds := [.data, .data, .data], laidTests := true, laidLooks := .later }
def DraftDoesCardSaid : Prop := Claim7.holds Tryz.pinned (.plain (OpenSpec.ofChange draftDoesSpec)) draftDoesCard

/-- THE TIED CARD OF 'canticlelaw28.DraftBack'. -/
def draftBackCard : Claim7 := { stood := { row := draftBackRow, standIns := [], harness := (true, "adf1172fe41c89a9dc88be14d90aa9457a4a48186bb1b1043815e539662356dc"), looks := true }, kinds := [], alts := [], laidByText := true, laidKinds := [.data, .data, .data, .data, .sentinel, .sentinel, .pinned], laidTests := true, laidLooks := .later }
def DraftBackCardSaid : Prop := Claim7.holds Tryz.pinned (.plain (OpenSpec.ofChange draftBackSpec)) draftBackCard

/-- THE TIED CARD OF 'canticlelaw28.DraftReads'. -/
def draftReadsCard : Claim7 := { stood := { row := draftReadsRow, standIns := [], harness := (true, "adf1172fe41c89a9dc88be14d90aa9457a4a48186bb1b1043815e539662356dc"), looks := true }, kinds := [], alts := [], laidByText := true, laidKinds := [.data, .data, .data, .data, .sentinel, .sentinel, .pinned], laidTests := true, laidLooks := .later }
def DraftReadsCardSaid : Prop := Claim7.holds Tryz.pinned (.plain (OpenSpec.ofChange draftReadsSpec)) draftReadsCard

/-- THE SECOND FORM's CARD OF 'canticlelaw28.DraftNone'. -/
def draftNoneUptoCard : Claim7 := { stood := { row := draftNoneUptoRow, standIns := [], harness := (true, "adf1172fe41c89a9dc88be14d90aa9457a4a48186bb1b1043815e539662356dc"), looks := true }, kinds := [], alts := [], laidByText := true, laidKinds := [.data, .data, .data], laidTests := true, laidLooks := .later }
def DraftNoneUptoCardSaid : Prop := Claim7.holds Tryz.pinned (.plain (OpenSpec.upto draftNoneSpec)) draftNoneUptoCard

/-- THE SECOND FORM's CARD OF 'canticlelaw28.DraftDoes'. -/
def draftDoesUptoCard : Claim7 := { stood := { row := draftDoesUptoRow, standIns := [], harness := (true, "adf1172fe41c89a9dc88be14d90aa9457a4a48186bb1b1043815e539662356dc"), looks := true }, kinds := [], alts := [], laidByText := true, laidKinds := [.data, .data, .data], laidTests := true, laidLooks := .later }
def DraftDoesUptoCardSaid : Prop := Claim7.holds Tryz.pinned (.plain (OpenSpec.upto draftDoesSpec)) draftDoesUptoCard

/-- THE SECOND FORM's CARD OF 'canticlelaw28.DraftBack'. -/
def draftBackUptoCard : Claim7 := { stood := { row := draftBackUptoRow, standIns := [], harness := (true, "adf1172fe41c89a9dc88be14d90aa9457a4a48186bb1b1043815e539662356dc"), looks := true }, kinds := [], alts := [], laidByText := true, laidKinds := [.data, .data, .data, .data, .sentinel, .sentinel, .pinned], laidTests := true, laidLooks := .later }
def DraftBackUptoCardSaid : Prop := Claim7.holds Tryz.pinned (.plain (OpenSpec.upto draftBackSpec)) draftBackUptoCard

/-- THE SECOND FORM's CARD OF 'canticlelaw28.DraftReads'. -/
def draftReadsUptoCard : Claim7 := { stood := { row := draftReadsUptoRow, standIns := [], harness := (true, "adf1172fe41c89a9dc88be14d90aa9457a4a48186bb1b1043815e539662356dc"), looks := true }, kinds := [], alts := [], laidByText := true, laidKinds := [.data, .data, .data, .data, .sentinel, .sentinel, .pinned], laidTests := true, laidLooks := .later }
def DraftReadsUptoCardSaid : Prop := Claim7.holds Tryz.pinned (.plain (OpenSpec.upto draftReadsSpec)) draftReadsUptoCard
end Rows
end Go.Proofs.YtgckeelnhafgaaaGreatDoor
