/-
  DERIVED. GIVEN WITH THE SEED: THE CARDS: each row of YtikgnakhciklaaaGreatDoorRows.lean that lists a variable, with what it lists TIED to the program's text (the seventh form; the later family's looks); each row that meets fmt, with fmt's text TOLD by the authors' own Lean function (tested against real Go, not proved from fmt's source: count such statements apart). THE CARD IS WHAT COUNTS. Prove the row's statement (the work); the ties are given (YtikgnakhciklaaaGreatDoorTie.lean); close each card by the builder's one call (the guide's Derived/Test/ToyasCard.lean, 'card_holds'). Laid BY PROGRAM, IN A SANDBOX (cutbox-door.mjs). By AI agents, Wed Nov 11 2026. No macro, syntax, notation, axiom, sorry.
-/
import Derived.Test.YtikgnakhciklaaaGreatDoorRows
import GoSem.ClaimSeven
namespace Go.Proofs.YtikgnakhciklaaaGreatDoor
namespace Rows

/-- THE TIED CARD OF 'thwartlaw13.NodeKept'. -/
def nodeKeptCard : Claim7 := { stood := { row := nodeKeptRow, standIns := [], harness := (true, "9e630af36854488fa1f6c2b13f0553b33ffd952e3610d313f574dc614ba3b432"), looks := false }, kinds := [], alts := [], laidByText := true, laidKinds := [.data, .pinned], laidTests := true, laidLooks := .later }
def NodeKeptCardSaid : Prop := Claim7.holds Tryz.pinned (.plain (OpenSpec.ofChange nodeKeptSpec)) nodeKeptCard

/-- THE TIED CARD OF 'thwartlaw14.DiskKeeps'. -/
def diskKeepsCard : Claim7 := { stood := { row := diskKeepsRow, standIns := [], harness := (true, "9e630af36854488fa1f6c2b13f0553b33ffd952e3610d313f574dc614ba3b432"), looks := false }, kinds := [], alts := [], laidByText := true, laidKinds := [.data, .pinned], laidTests := true, laidLooks := .later }
def DiskKeepsCardSaid : Prop := Claim7.holds Tryz.pinned (.plain (OpenSpec.ofChange diskKeepsSpec)) diskKeepsCard

/-- THE TIED CARD OF 'thwartlaw14.DiskNobody'. -/
def diskNobodyCard : Claim7 := { stood := { row := diskNobodyRow, standIns := [], harness := (true, "9e630af36854488fa1f6c2b13f0553b33ffd952e3610d313f574dc614ba3b432"), looks := false }, kinds := [], alts := [], laidByText := true, laidKinds := [.data, .pinned], laidTests := true, laidLooks := .later }
def DiskNobodyCardSaid : Prop := Claim7.holds Tryz.pinned (.plain (OpenSpec.ofChange diskNobodySpec)) diskNobodyCard

/-- THE SECOND FORM's CARD OF 'thwartlaw13.NodeKept'. -/
def nodeKeptUptoCard : Claim7 := { stood := { row := nodeKeptUptoRow, standIns := [], harness := (true, "9e630af36854488fa1f6c2b13f0553b33ffd952e3610d313f574dc614ba3b432"), looks := false }, kinds := [], alts := [], laidByText := true, laidKinds := [.data, .pinned], laidTests := true, laidLooks := .later }
def NodeKeptUptoCardSaid : Prop := Claim7.holds Tryz.pinned (.plain (OpenSpec.upto nodeKeptSpec)) nodeKeptUptoCard

/-- THE SECOND FORM's CARD OF 'thwartlaw14.DiskKeeps'. -/
def diskKeepsUptoCard : Claim7 := { stood := { row := diskKeepsUptoRow, standIns := [], harness := (true, "9e630af36854488fa1f6c2b13f0553b33ffd952e3610d313f574dc614ba3b432"), looks := false }, kinds := [], alts := [], laidByText := true, laidKinds := [.data, .pinned], laidTests := true, laidLooks := .later }
def DiskKeepsUptoCardSaid : Prop := Claim7.holds Tryz.pinned (.plain (OpenSpec.upto diskKeepsSpec)) diskKeepsUptoCard

/-- THE SECOND FORM's CARD OF 'thwartlaw14.DiskNobody'. -/
def diskNobodyUptoCard : Claim7 := { stood := { row := diskNobodyUptoRow, standIns := [], harness := (true, "9e630af36854488fa1f6c2b13f0553b33ffd952e3610d313f574dc614ba3b432"), looks := false }, kinds := [], alts := [], laidByText := true, laidKinds := [.data, .pinned], laidTests := true, laidLooks := .later }
def DiskNobodyUptoCardSaid : Prop := Claim7.holds Tryz.pinned (.plain (OpenSpec.upto diskNobodySpec)) diskNobodyUptoCard
end Rows
end Go.Proofs.YtikgnakhciklaaaGreatDoor
