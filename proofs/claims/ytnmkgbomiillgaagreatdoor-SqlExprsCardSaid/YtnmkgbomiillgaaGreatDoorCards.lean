/-
  DERIVED. GIVEN WITH THE SEED: THE CARDS: each row of YtnmkgbomiillgaaGreatDoorRows.lean that lists a variable, with what it lists TIED to the program's text (the seventh form; the later family's looks); each row that meets fmt, with fmt's text TOLD by the authors' own Lean function (tested against real Go, not proved from fmt's source: count such statements apart). THE CARD IS WHAT COUNTS. Prove the row's statement (the work); the ties are given (YtnmkgbomiillgaaGreatDoorTie.lean); close each card by the builder's one call (the guide's Derived/Test/ToyasCard.lean, 'card_holds'). Laid BY PROGRAM, IN A SANDBOX (cutbox-door.mjs). By AI agents, Wed Nov 11 2026. No macro, syntax, notation, axiom, sorry.
-/
import Derived.Test.YtnmkgbomiillgaaGreatDoorRows
import GoSem.ClaimSeven
namespace Go.Proofs.YtnmkgbomiillgaaGreatDoor
namespace Rows

/-- THE TIED CARD OF 'midrangelaw30.SqlExprs'. -/
def sqlExprsCard : Claim7 := { stood := { row := sqlExprsRow, standIns := [], harness := (true, "1f74844c78818f86d278662cbcf22c439c6e78d05634723b84d232c18e799bb9"), looks := true }, kinds := [], alts := [], laidByText := true, laidKinds := [.data, .data, .data, .data, .sentinel, .sentinel, .listed, .data, .widerDeep, .data, .pinned], laidTests := true, laidLooks := .later }
def SqlExprsCardSaid : Prop := Claim7.holds Tryz.pinned (.plain (OpenSpec.ofChange sqlExprsSpec)) sqlExprsCard

/-- THE TIED CARD OF 'midrangelaw30.SqlLikes'. -/
def sqlLikesCard : Claim7 := { stood := { row := sqlLikesRow, standIns := [], harness := (true, "1f74844c78818f86d278662cbcf22c439c6e78d05634723b84d232c18e799bb9"), looks := true }, kinds := [], alts := [], laidByText := true, laidKinds := [.data, .data, .data, .data, .sentinel, .sentinel, .listed, .data, .widerDeep, .data, .pinned], laidTests := true, laidLooks := .later }
def SqlLikesCardSaid : Prop := Claim7.holds Tryz.pinned (.plain (OpenSpec.ofChange sqlLikesSpec)) sqlLikesCard

/-- THE TIED CARD OF 'midrangelaw30.SqlCompares'. -/
def sqlComparesCard : Claim7 := { stood := { row := sqlComparesRow, standIns := [], harness := (true, "1f74844c78818f86d278662cbcf22c439c6e78d05634723b84d232c18e799bb9"), looks := true }, kinds := [], alts := [], laidByText := true, laidKinds := [.data, .data, .data, .data, .sentinel, .sentinel, .listed, .data, .widerDeep, .data, .pinned], laidTests := true, laidLooks := .later }
def SqlComparesCardSaid : Prop := Claim7.holds Tryz.pinned (.plain (OpenSpec.ofChange sqlComparesSpec)) sqlComparesCard

/-- THE SECOND FORM's CARD OF 'midrangelaw30.SqlExprs'. -/
def sqlExprsUptoCard : Claim7 := { stood := { row := sqlExprsUptoRow, standIns := [], harness := (true, "1f74844c78818f86d278662cbcf22c439c6e78d05634723b84d232c18e799bb9"), looks := true }, kinds := [], alts := [], laidByText := true, laidKinds := [.data, .data, .data, .data, .sentinel, .sentinel, .listed, .data, .widerDeep, .data, .pinned], laidTests := true, laidLooks := .later }
def SqlExprsUptoCardSaid : Prop := Claim7.holds Tryz.pinned (.plain (OpenSpec.upto sqlExprsSpec)) sqlExprsUptoCard

/-- THE SECOND FORM's CARD OF 'midrangelaw30.SqlLikes'. -/
def sqlLikesUptoCard : Claim7 := { stood := { row := sqlLikesUptoRow, standIns := [], harness := (true, "1f74844c78818f86d278662cbcf22c439c6e78d05634723b84d232c18e799bb9"), looks := true }, kinds := [], alts := [], laidByText := true, laidKinds := [.data, .data, .data, .data, .sentinel, .sentinel, .listed, .data, .widerDeep, .data, .pinned], laidTests := true, laidLooks := .later }
def SqlLikesUptoCardSaid : Prop := Claim7.holds Tryz.pinned (.plain (OpenSpec.upto sqlLikesSpec)) sqlLikesUptoCard

/-- THE SECOND FORM's CARD OF 'midrangelaw30.SqlCompares'. -/
def sqlComparesUptoCard : Claim7 := { stood := { row := sqlComparesUptoRow, standIns := [], harness := (true, "1f74844c78818f86d278662cbcf22c439c6e78d05634723b84d232c18e799bb9"), looks := true }, kinds := [], alts := [], laidByText := true, laidKinds := [.data, .data, .data, .data, .sentinel, .sentinel, .listed, .data, .widerDeep, .data, .pinned], laidTests := true, laidLooks := .later }
def SqlComparesUptoCardSaid : Prop := Claim7.holds Tryz.pinned (.plain (OpenSpec.upto sqlComparesSpec)) sqlComparesUptoCard
end Rows
end Go.Proofs.YtnmkgbomiillgaaGreatDoor
