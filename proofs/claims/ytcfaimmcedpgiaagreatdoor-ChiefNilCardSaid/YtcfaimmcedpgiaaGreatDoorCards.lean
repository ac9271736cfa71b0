/-
  DERIVED. GIVEN WITH THE SEED: THE CARDS: each row of YtcfaimmcedpgiaaGreatDoorRows.lean that lists a variable, with what it lists TIED to the program's text (the seventh form; the later family's looks); each row that meets fmt, with fmt's text TOLD by the authors' own Lean function (tested against real Go, not proved from fmt's source: count such statements apart). THE CARD IS WHAT COUNTS. Prove the row's statement (the work); the ties are given (YtcfaimmcedpgiaaGreatDoorTie.lean); close each card by the builder's one call (the guide's Derived/Test/ToyasCard.lean, 'card_holds'). Laid BY PROGRAM, IN A SANDBOX (cutbox-door.mjs). By AI agents, Wed Nov 11 2026. No macro, syntax, notation, axiom, sorry.
-/
import Derived.Test.YtcfaimmcedpgiaaGreatDoorRows
import GoSem.ClaimSeven
namespace Go.Proofs.YtcfaimmcedpgiaaGreatDoor
namespace Rows

/-- THE TIED CARD OF 'wharfingerlaw24.DeskLets'. -/
def deskLetsCard : Claim7 := { stood := { row := deskLetsRow, standIns := [], harness := (true, "67102d4c87435debfc24c278ad2874dee19b83a72721616c596c69e1a603a1ce"), looks := true }, kinds := [], alts := [], laidByText := true, laidKinds := [.data, .data, .data], laidTests := true, laidLooks := .later }
def DeskLetsCardSaid : Prop := Claim7.holds Tryz.pinned (.plain (OpenSpec.ofChange deskLetsSpec)) deskLetsCard

/-- THE TIED CARD OF 'wharfingerlaw24.DeskWords'. -/
def deskWordsCard : Claim7 := { stood := { row := deskWordsRow, standIns := [], harness := (true, "67102d4c87435debfc24c278ad2874dee19b83a72721616c596c69e1a603a1ce"), looks := true }, kinds := [], alts := [], laidByText := true, laidKinds := [.data, .data, .data], laidTests := true, laidLooks := .later }
def DeskWordsCardSaid : Prop := Claim7.holds Tryz.pinned (.plain (OpenSpec.ofChange deskWordsSpec)) deskWordsCard

/-- THE TIED CARD OF 'wharfingerlaw22.ChiefNil'. -/
def chiefNilCard : Claim7 := { stood := { row := chiefNilRow, standIns := [], harness := (true, "67102d4c87435debfc24c278ad2874dee19b83a72721616c596c69e1a603a1ce"), looks := true }, kinds := [], alts := [], laidByText := true, laidKinds := [.data, .data, .data, .data, .sentinel, .sentinel, .pinned], laidTests := true, laidLooks := .later }
def ChiefNilCardSaid : Prop := Claim7.holds Tryz.pinned (.plain (OpenSpec.ofChange chiefNilSpec)) chiefNilCard

/-- THE SECOND FORM's CARD OF 'wharfingerlaw24.DeskLets'. -/
def deskLetsUptoCard : Claim7 := { stood := { row := deskLetsUptoRow, standIns := [], harness := (true, "67102d4c87435debfc24c278ad2874dee19b83a72721616c596c69e1a603a1ce"), looks := true }, kinds := [], alts := [], laidByText := true, laidKinds := [.data, .data, .data], laidTests := true, laidLooks := .later }
def DeskLetsUptoCardSaid : Prop := Claim7.holds Tryz.pinned (.plain (OpenSpec.upto deskLetsSpec)) deskLetsUptoCard

/-- THE SECOND FORM's CARD OF 'wharfingerlaw24.DeskWords'. -/
def deskWordsUptoCard : Claim7 := { stood := { row := deskWordsUptoRow, standIns := [], harness := (true, "67102d4c87435debfc24c278ad2874dee19b83a72721616c596c69e1a603a1ce"), looks := true }, kinds := [], alts := [], laidByText := true, laidKinds := [.data, .data, .data], laidTests := true, laidLooks := .later }
def DeskWordsUptoCardSaid : Prop := Claim7.holds Tryz.pinned (.plain (OpenSpec.upto deskWordsSpec)) deskWordsUptoCard

/-- THE SECOND FORM's CARD OF 'wharfingerlaw22.ChiefNil'. -/
def chiefNilUptoCard : Claim7 := { stood := { row := chiefNilUptoRow, standIns := [], harness := (true, "67102d4c87435debfc24c278ad2874dee19b83a72721616c596c69e1a603a1ce"), looks := true }, kinds := [], alts := [], laidByText := true, laidKinds := [.data, .data, .data, .data, .sentinel, .sentinel, .pinned], laidTests := true, laidLooks := .later }
def ChiefNilUptoCardSaid : Prop := Claim7.holds Tryz.pinned (.plain (OpenSpec.upto chiefNilSpec)) chiefNilUptoCard
end Rows
end Go.Proofs.YtcfaimmcedpgiaaGreatDoor
