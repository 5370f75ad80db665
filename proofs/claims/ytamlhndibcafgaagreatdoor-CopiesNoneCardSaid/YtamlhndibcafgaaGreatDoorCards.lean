/-
  DERIVED. GIVEN WITH THE SEED: THE CARDS: each row of YtamlhndibcafgaaGreatDoorRows.lean that lists a variable, with what it lists TIED to the program's text (the seventh form; the later family's looks); each row that meets fmt, with fmt's text TOLD by the authors' own Lean function (tested against real Go, not proved from fmt's source: count such statements apart). THE CARD IS WHAT COUNTS. Prove the row's statement (the work); the ties are given (YtamlhndibcafgaaGreatDoorTie.lean); close each card by the builder's one call (the guide's Derived/Test/ToyasCard.lean, 'card_holds'). Laid BY PROGRAM, IN A SANDBOX (cutbox-door.mjs). By AI agents, Wed Nov 11 2026. No macro, syntax, notation, axiom, sorry.
-/
import Derived.Test.YtamlhndibcafgaaGreatDoorRows
import GoSem.ClaimSeven
namespace Go.Proofs.YtamlhndibcafgaaGreatDoor
namespace Rows

/-- THE TIED CARD OF 'annalistlaw35.CopiesText'. -/
def copiesTextCard : Claim7 := { stood := { row := copiesTextRow, standIns := [], harness := (true, "cbba40256c2b729c8a1f8e0ff952a4ba9fea256a4d3646d09b7be1bf1c7b9121"), looks := true }, kinds := [], alts := [], laidByText := true, laidKinds := [.data, .pinned], laidTests := true, laidLooks := .later }
def CopiesTextCardSaid : Prop := Claim7.holds Tryz.pinned (.plain (OpenSpec.ofChange copiesTextSpec)) copiesTextCard

/-- THE TIED CARD OF 'annalistlaw35.CopiesNone'. -/
def copiesNoneCard : Claim7 := { stood := { row := copiesNoneRow, standIns := [], harness := (true, "cbba40256c2b729c8a1f8e0ff952a4ba9fea256a4d3646d09b7be1bf1c7b9121"), looks := true }, kinds := [], alts := [], laidByText := true, laidKinds := [.data, .pinned], laidTests := true, laidLooks := .later }
def CopiesNoneCardSaid : Prop := Claim7.holds Tryz.pinned (.plain (OpenSpec.ofChange copiesNoneSpec)) copiesNoneCard

/-- THE TIED CARD OF 'annalistlaw30.WorldsNone'. -/
def worldsNoneCard : Claim7 := { stood := { row := worldsNoneRow, standIns := [], harness := (true, "cbba40256c2b729c8a1f8e0ff952a4ba9fea256a4d3646d09b7be1bf1c7b9121"), looks := true }, kinds := [], alts := [], laidByText := true, laidKinds := [.data, .pinned], laidTests := true, laidLooks := .later }
def WorldsNoneCardSaid : Prop := Claim7.holds Tryz.pinned (.plain (OpenSpec.ofChange worldsNoneSpec)) worldsNoneCard

/-- THE TIED CARD OF 'annalistlaw32.SubsNone'. -/
def subsNoneCard : Claim7 := { stood := { row := subsNoneRow, standIns := [], harness := (true, "cbba40256c2b729c8a1f8e0ff952a4ba9fea256a4d3646d09b7be1bf1c7b9121"), looks := true }, kinds := [], alts := [], laidByText := true, laidKinds := [.data, .data, .data, .data, .sentinel, .sentinel, .pinned], laidTests := true, laidLooks := .later }
def SubsNoneCardSaid : Prop := Claim7.holds Tryz.pinned (.plain (OpenSpec.ofChange subsNoneSpec)) subsNoneCard

/-- THE SECOND FORM's CARD OF 'annalistlaw35.CopiesText'. -/
def copiesTextUptoCard : Claim7 := { stood := { row := copiesTextUptoRow, standIns := [], harness := (true, "cbba40256c2b729c8a1f8e0ff952a4ba9fea256a4d3646d09b7be1bf1c7b9121"), looks := true }, kinds := [], alts := [], laidByText := true, laidKinds := [.data, .pinned], laidTests := true, laidLooks := .later }
def CopiesTextUptoCardSaid : Prop := Claim7.holds Tryz.pinned (.plain (OpenSpec.upto copiesTextSpec)) copiesTextUptoCard

/-- THE SECOND FORM's CARD OF 'annalistlaw35.CopiesNone'. -/
def copiesNoneUptoCard : Claim7 := { stood := { row := copiesNoneUptoRow, standIns := [], harness := (true, "cbba40256c2b729c8a1f8e0ff952a4ba9fea256a4d3646d09b7be1bf1c7b9121"), looks := true }, kinds := [], alts := [], laidByText := true, laidKinds := [.data, .pinned], laidTests := true, laidLooks := .later }
def CopiesNoneUptoCardSaid : Prop := Claim7.holds Tryz.pinned (.plain (OpenSpec.upto copiesNoneSpec)) copiesNoneUptoCard

/-- THE SECOND FORM's CARD OF 'annalistlaw30.WorldsNone'. -/
def worldsNoneUptoCard : Claim7 := { stood := { row := worldsNoneUptoRow, standIns := [], harness := (true, "cbba40256c2b729c8a1f8e0ff952a4ba9fea256a4d3646d09b7be1bf1c7b9121"), looks := true }, kinds := [], alts := [], laidByText := true, laidKinds := [.data, .pinned], laidTests := true, laidLooks := .later }
def WorldsNoneUptoCardSaid : Prop := Claim7.holds Tryz.pinned (.plain (OpenSpec.upto worldsNoneSpec)) worldsNoneUptoCard

/-- THE SECOND FORM's CARD OF 'annalistlaw32.SubsNone'. -/
def subsNoneUptoCard : Claim7 := { stood := { row := subsNoneUptoRow, standIns := [], harness := (true, "cbba40256c2b729c8a1f8e0ff952a4ba9fea256a4d3646d09b7be1bf1c7b9121"), looks := true }, kinds := [], alts := [], laidByText := true, laidKinds := [.data, .data, .data, .data, .sentinel, .sentinel, .pinned], laidTests := true, laidLooks := .later }
def SubsNoneUptoCardSaid : Prop := Claim7.holds Tryz.pinned (.plain (OpenSpec.upto subsNoneSpec)) subsNoneUptoCard
end Rows
end Go.Proofs.YtamlhndibcafgaaGreatDoor
