/-
  DERIVED. GIVEN WITH THE SEED: THE CARDS: each row of YtcdfeaodfmfdnaaGreatDoorRows.lean that lists a variable, with what it lists TIED to the program's text (the seventh form; the later family's looks); each row that meets fmt, with fmt's text TOLD by the authors' own Lean function (tested against real Go, not proved from fmt's source: count such statements apart). THE CARD IS WHAT COUNTS. Prove the row's statement (the work); the ties are given (YtcdfeaodfmfdnaaGreatDoorTie.lean); close each card by the builder's one call (the guide's Derived/Test/ToyasCard.lean, 'card_holds'). Laid BY PROGRAM, IN A SANDBOX (cutbox-door.mjs). By AI agents, Wed Nov 11 2026. No macro, syntax, notation, axiom, sorry.
-/
import Derived.Test.YtcdfeaodfmfdnaaGreatDoorRows
import GoSem.ClaimSeven
namespace Go.Proofs.YtcdfeaodfmfdnaaGreatDoor
namespace Rows

/-- THE TIED CARD OF 'gamelaw.RulesTexts'. -/
def rulesTextsCard : Claim7 := { stood := { row := rulesTextsRow, standIns := [], harness := (true, "f9ddbfe68a6507bdda89fc93d0f0c033015382e2850d084e93351246cf305cff"), looks := true }, kinds := [], alts := [], laidByText := true, laidKinds := [.data, .data, .data, .data, .sentinel, .sentinel, .pinned], laidTests := true, laidLooks := .later }
def RulesTextsCardSaid : Prop := Claim7.holds Tryz.pinned (.plain (OpenSpec.ofChange rulesTextsSpec)) rulesTextsCard

/-- THE TIED CARD OF 'gamelaw.RecordPlays'. -/
def recordPlaysCard : Claim7 := { stood := { row := recordPlaysRow, standIns := [], harness := (true, "f9ddbfe68a6507bdda89fc93d0f0c033015382e2850d084e93351246cf305cff"), looks := true }, kinds := [], alts := [], laidByText := true, laidKinds := [.data, .data, .data, .data, .pinned], laidTests := true, laidLooks := .later }
def RecordPlaysCardSaid : Prop := Claim7.holds Tryz.pinned (.plain (OpenSpec.ofChange recordPlaysSpec)) recordPlaysCard

/-- THE TIED CARD OF 'gamelaw.HousePlays'. -/
def housePlaysCard : Claim7 := { stood := { row := housePlaysRow, standIns := [], harness := (true, "f9ddbfe68a6507bdda89fc93d0f0c033015382e2850d084e93351246cf305cff"), looks := true }, kinds := [], alts := [], laidByText := true, laidKinds := [.data, .data, .data], laidTests := true, laidLooks := .later }
def HousePlaysCardSaid : Prop := Claim7.holds Tryz.pinned (.plain (OpenSpec.ofChange housePlaysSpec)) housePlaysCard

/-- THE TIED CARD OF 'gamekeep.HouseOnce'. -/
def houseOnceCard : Claim7 := { stood := { row := houseOnceRow, standIns := [], harness := (true, "f9ddbfe68a6507bdda89fc93d0f0c033015382e2850d084e93351246cf305cff"), looks := true }, kinds := [], alts := [], laidByText := true, laidKinds := [.data, .data, .data], laidTests := true, laidLooks := .later }
def HouseOnceCardSaid : Prop := Claim7.holds Tryz.pinned (.plain (OpenSpec.ofChange houseOnceSpec)) houseOnceCard

/-- THE TIED CARD OF 'gamelaw.HouseOpens'. -/
def houseOpensCard : Claim7 := { stood := { row := houseOpensRow, standIns := [], harness := (true, "f9ddbfe68a6507bdda89fc93d0f0c033015382e2850d084e93351246cf305cff"), looks := true }, kinds := [], alts := [], laidByText := true, laidKinds := [.data, .data, .data, .data, .sentinel, .sentinel, .pinned], laidTests := true, laidLooks := .later }
def HouseOpensCardSaid : Prop := Claim7.holds Tryz.pinned (.plain (OpenSpec.ofChange houseOpensSpec)) houseOpensCard

/-- THE TIED CARD OF 'gamekeep.HouseOpen'. -/
def houseOpenCard : Claim7 := { stood := { row := houseOpenRow, standIns := [], harness := (true, "f9ddbfe68a6507bdda89fc93d0f0c033015382e2850d084e93351246cf305cff"), looks := true }, kinds := [], alts := [], laidByText := true, laidKinds := [.data, .data, .data, .data, .sentinel, .sentinel, .pinned], laidTests := true, laidLooks := .later }
def HouseOpenCardSaid : Prop := Claim7.holds Tryz.pinned (.plain (OpenSpec.ofChange houseOpenSpec)) houseOpenCard

/-- THE SECOND FORM's CARD OF 'gamelaw.RulesTexts'. -/
def rulesTextsUptoCard : Claim7 := { stood := { row := rulesTextsUptoRow, standIns := [], harness := (true, "f9ddbfe68a6507bdda89fc93d0f0c033015382e2850d084e93351246cf305cff"), looks := true }, kinds := [], alts := [], laidByText := true, laidKinds := [.data, .data, .data, .data, .sentinel, .sentinel, .pinned], laidTests := true, laidLooks := .later }
def RulesTextsUptoCardSaid : Prop := Claim7.holds Tryz.pinned (.plain (OpenSpec.upto rulesTextsSpec)) rulesTextsUptoCard

/-- THE SECOND FORM's CARD OF 'gamelaw.RecordPlays'. -/
def recordPlaysUptoCard : Claim7 := { stood := { row := recordPlaysUptoRow, standIns := [], harness := (true, "f9ddbfe68a6507bdda89fc93d0f0c033015382e2850d084e93351246cf305cff"), looks := true }, kinds := [], alts := [], laidByText := true, laidKinds := [.data, .data, .data, .data, .pinned], laidTests := true, laidLooks := .later }
def RecordPlaysUptoCardSaid : Prop := Claim7.holds Tryz.pinned (.plain (OpenSpec.upto recordPlaysSpec)) recordPlaysUptoCard

/-- THE SECOND FORM's CARD OF 'gamelaw.HousePlays'. -/
def housePlaysUptoCard : Claim7 := { stood := { row := housePlaysUptoRow, standIns := [], harness := (true, "f9ddbfe68a6507bdda89fc93d0f0c033015382e2850d084e93351246cf305cff"), looks := true }, kinds := [], alts := [], laidByText := true, laidKinds := [.data, .data, .data], laidTests := true, laidLooks := .later }
def HousePlaysUptoCardSaid : Prop := Claim7.holds Tryz.pinned (.plain (OpenSpec.upto housePlaysSpec)) housePlaysUptoCard

/-- THE SECOND FORM's CARD OF 'gamekeep.HouseOnce'. -/
def houseOnceUptoCard : Claim7 := { stood := { row := houseOnceUptoRow, standIns := [], harness := (true, "f9ddbfe68a6507bdda89fc93d0f0c033015382e2850d084e93351246cf305cff"), looks := true }, kinds := [], alts := [], laidByText := true, laidKinds := [.data, .data, .data], laidTests := true, laidLooks := .later }
def HouseOnceUptoCardSaid : Prop := Claim7.holds Tryz.pinned (.plain (OpenSpec.upto houseOnceSpec)) houseOnceUptoCard

/-- THE SECOND FORM's CARD OF 'gamelaw.HouseOpens'. -/
def houseOpensUptoCard : Claim7 := { stood := { row := houseOpensUptoRow, standIns := [], harness := (true, "f9ddbfe68a6507bdda89fc93d0f0c033015382e2850d084e93351246cf305cff"), looks := true }, kinds := [], alts := [], laidByText := true, laidKinds := [.data, .data, .data, .data, .sentinel, .sentinel, .pinned], laidTests := true, laidLooks := .later }
def HouseOpensUptoCardSaid : Prop := Claim7.holds Tryz.pinned (.plain (OpenSpec.upto houseOpensSpec)) houseOpensUptoCard

/-- THE SECOND FORM's CARD OF 'gamekeep.HouseOpen'. -/
def houseOpenUptoCard : Claim7 := { stood := { row := houseOpenUptoRow, standIns := [], harness := (true, "f9ddbfe68a6507bdda89fc93d0f0c033015382e2850d084e93351246cf305cff"), looks := true }, kinds := [], alts := [], laidByText := true, laidKinds := [.data, .data, .data, .data, .sentinel, .sentinel, .pinned], laidTests := true, laidLooks := .later }
def HouseOpenUptoCardSaid : Prop := Claim7.holds Tryz.pinned (.plain (OpenSpec.upto houseOpenSpec)) houseOpenUptoCard
end Rows
end Go.Proofs.YtcdfeaodfmfdnaaGreatDoor
