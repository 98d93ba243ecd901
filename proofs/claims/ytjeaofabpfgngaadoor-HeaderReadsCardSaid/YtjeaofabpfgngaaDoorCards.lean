/-
  DERIVED. GIVEN WITH THE SEED: THE CARDS: each row of YtjeaofabpfgngaaDoorRows.lean that lists a variable, with what it lists TIED to the program's text (the seventh form; the later family's looks); each row that meets fmt, with fmt's text TOLD by the authors' own Lean function (tested against real Go, not proved from fmt's source: count such statements apart). THE CARD IS WHAT COUNTS. Prove the row's statement (the work); the ties are given (YtjeaofabpfgngaaDoorTie.lean); close each card by the builder's one call (the guide's Derived/Test/ToyasCard.lean, 'card_holds'). Laid BY PROGRAM, IN A SANDBOX (cutbox-door.mjs). By AI agents, Wed Nov 11 2026. No macro, syntax, notation, axiom, sorry.
-/
import Derived.Test.YtjeaofabpfgngaaDoorRows
import GoSem.ClaimSeven
namespace Go.Proofs.YtjeaofabpfgngaaDoor
namespace Rows

/-- THE TIED CARD OF 'satchellaw13.HeaderForms'. -/
def headerFormsCard : Claim7 := { stood := { row := headerFormsRow, standIns := [], harness := (true, "81b63a4454abb9425122ea576bd21ac44fe62e7ee53d0680050faf2df2d8bb59"), looks := false }, kinds := [], alts := [], laidByText := true, laidKinds := [.data, .data, .data, .data, .data, .data, .wider, .data, .data, .data], laidTests := true, laidLooks := .later }
def HeaderFormsCardSaid : Prop := Claim7.holds Tryd.pinned (.plain (OpenSpec.ofChange headerFormsSpec)) headerFormsCard

/-- THE TIED CARD OF 'satchellaw13.HeaderWrites'. -/
def headerWritesCard : Claim7 := { stood := { row := headerWritesRow, standIns := [], harness := (true, "81b63a4454abb9425122ea576bd21ac44fe62e7ee53d0680050faf2df2d8bb59"), looks := false }, kinds := [], alts := [], laidByText := true, laidKinds := [.data, .data, .data, .data, .data, .data, .wider, .data, .data, .data], laidTests := true, laidLooks := .later }
def HeaderWritesCardSaid : Prop := Claim7.holds Tryd.pinned (.plain (OpenSpec.ofChange headerWritesSpec)) headerWritesCard

/-- THE TIED CARD OF 'satchellaw13.HeaderReads'. -/
def headerReadsCard : Claim7 := { stood := { row := headerReadsRow, standIns := [], harness := (true, "81b63a4454abb9425122ea576bd21ac44fe62e7ee53d0680050faf2df2d8bb59"), looks := false }, kinds := [], alts := [], laidByText := true, laidKinds := [.data, .data, .data, .data, .data, .data, .data, .wider, .data, .data, .data, .pinned], laidTests := true, laidLooks := .later }
def HeaderReadsCardSaid : Prop := Claim7.holds Tryd.pinned (.plain (OpenSpec.ofChange headerReadsSpec)) headerReadsCard

/-- THE TIED CARD OF 'satchellaw13.HeaderBack'. -/
def headerBackCard : Claim7 := { stood := { row := headerBackRow, standIns := [], harness := (true, "81b63a4454abb9425122ea576bd21ac44fe62e7ee53d0680050faf2df2d8bb59"), looks := false }, kinds := [], alts := [], laidByText := true, laidKinds := [.data, .data, .data, .data, .data, .data, .data, .wider, .data, .data, .data, .pinned], laidTests := true, laidLooks := .later }
def HeaderBackCardSaid : Prop := Claim7.holds Tryd.pinned (.plain (OpenSpec.ofChange headerBackSpec)) headerBackCard

/-- THE TIED CARD OF 'satchellaw13.HeaderByte'. -/
def headerByteCard : Claim7 := { stood := { row := headerByteRow, standIns := [], harness := (true, "81b63a4454abb9425122ea576bd21ac44fe62e7ee53d0680050faf2df2d8bb59"), looks := false }, kinds := [], alts := [], laidByText := true, laidKinds := [.data, .data, .data, .data, .data, .data, .data, .wider, .data, .data, .data, .pinned], laidTests := true, laidLooks := .later }
def HeaderByteCardSaid : Prop := Claim7.holds Tryd.pinned (.plain (OpenSpec.ofChange headerByteSpec)) headerByteCard

/-- THE SECOND FORM's CARD OF 'satchellaw13.HeaderForms'. -/
def headerFormsUptoCard : Claim7 := { stood := { row := headerFormsUptoRow, standIns := [], harness := (true, "81b63a4454abb9425122ea576bd21ac44fe62e7ee53d0680050faf2df2d8bb59"), looks := false }, kinds := [], alts := [], laidByText := true, laidKinds := [.data, .data, .data, .data, .data, .data, .wider, .data, .data, .data], laidTests := true, laidLooks := .later }
def HeaderFormsUptoCardSaid : Prop := Claim7.holds Tryd.pinned (.plain (OpenSpec.upto headerFormsSpec)) headerFormsUptoCard

/-- THE SECOND FORM's CARD OF 'satchellaw13.HeaderWrites'. -/
def headerWritesUptoCard : Claim7 := { stood := { row := headerWritesUptoRow, standIns := [], harness := (true, "81b63a4454abb9425122ea576bd21ac44fe62e7ee53d0680050faf2df2d8bb59"), looks := false }, kinds := [], alts := [], laidByText := true, laidKinds := [.data, .data, .data, .data, .data, .data, .wider, .data, .data, .data], laidTests := true, laidLooks := .later }
def HeaderWritesUptoCardSaid : Prop := Claim7.holds Tryd.pinned (.plain (OpenSpec.upto headerWritesSpec)) headerWritesUptoCard

/-- THE SECOND FORM's CARD OF 'satchellaw13.HeaderReads'. -/
def headerReadsUptoCard : Claim7 := { stood := { row := headerReadsUptoRow, standIns := [], harness := (true, "81b63a4454abb9425122ea576bd21ac44fe62e7ee53d0680050faf2df2d8bb59"), looks := false }, kinds := [], alts := [], laidByText := true, laidKinds := [.data, .data, .data, .data, .data, .data, .data, .wider, .data, .data, .data, .pinned], laidTests := true, laidLooks := .later }
def HeaderReadsUptoCardSaid : Prop := Claim7.holds Tryd.pinned (.plain (OpenSpec.upto headerReadsSpec)) headerReadsUptoCard

/-- THE SECOND FORM's CARD OF 'satchellaw13.HeaderBack'. -/
def headerBackUptoCard : Claim7 := { stood := { row := headerBackUptoRow, standIns := [], harness := (true, "81b63a4454abb9425122ea576bd21ac44fe62e7ee53d0680050faf2df2d8bb59"), looks := false }, kinds := [], alts := [], laidByText := true, laidKinds := [.data, .data, .data, .data, .data, .data, .data, .wider, .data, .data, .data, .pinned], laidTests := true, laidLooks := .later }
def HeaderBackUptoCardSaid : Prop := Claim7.holds Tryd.pinned (.plain (OpenSpec.upto headerBackSpec)) headerBackUptoCard

/-- THE SECOND FORM's CARD OF 'satchellaw13.HeaderByte'. -/
def headerByteUptoCard : Claim7 := { stood := { row := headerByteUptoRow, standIns := [], harness := (true, "81b63a4454abb9425122ea576bd21ac44fe62e7ee53d0680050faf2df2d8bb59"), looks := false }, kinds := [], alts := [], laidByText := true, laidKinds := [.data, .data, .data, .data, .data, .data, .data, .wider, .data, .data, .data, .pinned], laidTests := true, laidLooks := .later }
def HeaderByteUptoCardSaid : Prop := Claim7.holds Tryd.pinned (.plain (OpenSpec.upto headerByteSpec)) headerByteUptoCard
end Rows
end Go.Proofs.YtjeaofabpfgngaaDoor
