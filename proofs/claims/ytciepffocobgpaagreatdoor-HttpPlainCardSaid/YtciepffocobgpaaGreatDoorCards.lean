/-
  DERIVED. GIVEN WITH THE SEED: THE CARDS: each row of YtciepffocobgpaaGreatDoorRows.lean that lists a variable, with what it lists TIED to the program's text (the seventh form; the later family's looks); each row that meets fmt, with fmt's text TOLD by the authors' own Lean function (tested against real Go, not proved from fmt's source: count such statements apart). THE CARD IS WHAT COUNTS. Prove the row's statement (the work); the ties are given (YtciepffocobgpaaGreatDoorTie.lean); close each card by the builder's one call (the guide's Derived/Test/ToyasCard.lean, 'card_holds'). Laid BY PROGRAM, IN A SANDBOX (cutbox-door.mjs). By AI agents, Wed Nov 11 2026. No macro, syntax, notation, axiom, sorry.
-/
import Derived.Test.YtciepffocobgpaaGreatDoorRows
import GoSem.ClaimSeven
namespace Go.Proofs.YtciepffocobgpaaGreatDoor
namespace Rows

/-- THE TIED CARD OF 'klaxonlaw27.HttpParses'. -/
def httpParsesCard : Claim7 := { stood := { row := httpParsesRow, standIns := [], harness := (true, "1f1f5dae440563f5ebdb5820f97a6879e10aa4a2d281ec2e8ccfedc9a181f838"), looks := true }, kinds := [], alts := [], laidByText := true, laidKinds := [.data, .data, .data, .data, .sentinel, .sentinel, .pinned, .pinned], laidTests := true, laidLooks := .later }
def HttpParsesCardSaid : Prop := Claim7.holds Tryz.pinned (.plain (OpenSpec.ofChange httpParsesSpec)) httpParsesCard

/-- THE TIED CARD OF 'klaxonlaw27.HttpReads'. -/
def httpReadsCard : Claim7 := { stood := { row := httpReadsRow, standIns := [], harness := (true, "1f1f5dae440563f5ebdb5820f97a6879e10aa4a2d281ec2e8ccfedc9a181f838"), looks := true }, kinds := [], alts := [], laidByText := true, laidKinds := [.data, .data, .data, .data, .sentinel, .sentinel, .pinned, .pinned], laidTests := true, laidLooks := .later }
def HttpReadsCardSaid : Prop := Claim7.holds Tryz.pinned (.plain (OpenSpec.ofChange httpReadsSpec)) httpReadsCard

/-- THE TIED CARD OF 'klaxonlaw27.HttpAnswers'. -/
def httpAnswersCard : Claim7 := { stood := { row := httpAnswersRow, standIns := [], harness := (true, "1f1f5dae440563f5ebdb5820f97a6879e10aa4a2d281ec2e8ccfedc9a181f838"), looks := true }, kinds := [], alts := [], laidByText := true, laidKinds := [.data, .data, .data, .data, .sentinel, .sentinel, .pinned, .pinned], laidTests := true, laidLooks := .later }
def HttpAnswersCardSaid : Prop := Claim7.holds Tryz.pinned (.plain (OpenSpec.ofChange httpAnswersSpec)) httpAnswersCard

/-- THE TIED CARD OF 'klaxonlaw27.HttpWrites'. -/
def httpWritesCard : Claim7 := { stood := { row := httpWritesRow, standIns := [], harness := (true, "1f1f5dae440563f5ebdb5820f97a6879e10aa4a2d281ec2e8ccfedc9a181f838"), looks := true }, kinds := [], alts := [], laidByText := true, laidKinds := [.data, .data, .data, .data, .sentinel, .sentinel, .pinned, .pinned], laidTests := true, laidLooks := .later }
def HttpWritesCardSaid : Prop := Claim7.holds Tryz.pinned (.plain (OpenSpec.ofChange httpWritesSpec)) httpWritesCard

/-- THE TIED CARD OF 'klaxonlaw27.HttpPlain'. -/
def httpPlainCard : Claim7 := { stood := { row := httpPlainRow, standIns := [], harness := (true, "1f1f5dae440563f5ebdb5820f97a6879e10aa4a2d281ec2e8ccfedc9a181f838"), looks := true }, kinds := [], alts := [], laidByText := true, laidKinds := [.data, .data, .data, .data, .sentinel, .sentinel, .pinned, .pinned], laidTests := true, laidLooks := .later }
def HttpPlainCardSaid : Prop := Claim7.holds Tryz.pinned (.plain (OpenSpec.ofChange httpPlainSpec)) httpPlainCard

/-- THE TIED CARD OF 'klaxonlaw27.HttpBasics'. -/
def httpBasicsCard : Claim7 := { stood := { row := httpBasicsRow, standIns := [], harness := (true, "1f1f5dae440563f5ebdb5820f97a6879e10aa4a2d281ec2e8ccfedc9a181f838"), looks := true }, kinds := [], alts := [], laidByText := true, laidKinds := [.data, .data, .data, .data, .sentinel, .sentinel, .pinned, .pinned], laidTests := true, laidLooks := .later }
def HttpBasicsCardSaid : Prop := Claim7.holds Tryz.pinned (.plain (OpenSpec.ofChange httpBasicsSpec)) httpBasicsCard

/-- THE SECOND FORM's CARD OF 'klaxonlaw27.HttpParses'. -/
def httpParsesUptoCard : Claim7 := { stood := { row := httpParsesUptoRow, standIns := [], harness := (true, "1f1f5dae440563f5ebdb5820f97a6879e10aa4a2d281ec2e8ccfedc9a181f838"), looks := true }, kinds := [], alts := [], laidByText := true, laidKinds := [.data, .data, .data, .data, .sentinel, .sentinel, .pinned, .pinned], laidTests := true, laidLooks := .later }
def HttpParsesUptoCardSaid : Prop := Claim7.holds Tryz.pinned (.plain (OpenSpec.upto httpParsesSpec)) httpParsesUptoCard

/-- THE SECOND FORM's CARD OF 'klaxonlaw27.HttpReads'. -/
def httpReadsUptoCard : Claim7 := { stood := { row := httpReadsUptoRow, standIns := [], harness := (true, "1f1f5dae440563f5ebdb5820f97a6879e10aa4a2d281ec2e8ccfedc9a181f838"), looks := true }, kinds := [], alts := [], laidByText := true, laidKinds := [.data, .data, .data, .data, .sentinel, .sentinel, .pinned, .pinned], laidTests := true, laidLooks := .later }
def HttpReadsUptoCardSaid : Prop := Claim7.holds Tryz.pinned (.plain (OpenSpec.upto httpReadsSpec)) httpReadsUptoCard

/-- THE SECOND FORM's CARD OF 'klaxonlaw27.HttpAnswers'. -/
def httpAnswersUptoCard : Claim7 := { stood := { row := httpAnswersUptoRow, standIns := [], harness := (true, "1f1f5dae440563f5ebdb5820f97a6879e10aa4a2d281ec2e8ccfedc9a181f838"), looks := true }, kinds := [], alts := [], laidByText := true, laidKinds := [.data, .data, .data, .data, .sentinel, .sentinel, .pinned, .pinned], laidTests := true, laidLooks := .later }
def HttpAnswersUptoCardSaid : Prop := Claim7.holds Tryz.pinned (.plain (OpenSpec.upto httpAnswersSpec)) httpAnswersUptoCard

/-- THE SECOND FORM's CARD OF 'klaxonlaw27.HttpWrites'. -/
def httpWritesUptoCard : Claim7 := { stood := { row := httpWritesUptoRow, standIns := [], harness := (true, "1f1f5dae440563f5ebdb5820f97a6879e10aa4a2d281ec2e8ccfedc9a181f838"), looks := true }, kinds := [], alts := [], laidByText := true, laidKinds := [.data, .data, .data, .data, .sentinel, .sentinel, .pinned, .pinned], laidTests := true, laidLooks := .later }
def HttpWritesUptoCardSaid : Prop := Claim7.holds Tryz.pinned (.plain (OpenSpec.upto httpWritesSpec)) httpWritesUptoCard

/-- THE SECOND FORM's CARD OF 'klaxonlaw27.HttpPlain'. -/
def httpPlainUptoCard : Claim7 := { stood := { row := httpPlainUptoRow, standIns := [], harness := (true, "1f1f5dae440563f5ebdb5820f97a6879e10aa4a2d281ec2e8ccfedc9a181f838"), looks := true }, kinds := [], alts := [], laidByText := true, laidKinds := [.data, .data, .data, .data, .sentinel, .sentinel, .pinned, .pinned], laidTests := true, laidLooks := .later }
def HttpPlainUptoCardSaid : Prop := Claim7.holds Tryz.pinned (.plain (OpenSpec.upto httpPlainSpec)) httpPlainUptoCard

/-- THE SECOND FORM's CARD OF 'klaxonlaw27.HttpBasics'. -/
def httpBasicsUptoCard : Claim7 := { stood := { row := httpBasicsUptoRow, standIns := [], harness := (true, "1f1f5dae440563f5ebdb5820f97a6879e10aa4a2d281ec2e8ccfedc9a181f838"), looks := true }, kinds := [], alts := [], laidByText := true, laidKinds := [.data, .data, .data, .data, .sentinel, .sentinel, .pinned, .pinned], laidTests := true, laidLooks := .later }
def HttpBasicsUptoCardSaid : Prop := Claim7.holds Tryz.pinned (.plain (OpenSpec.upto httpBasicsSpec)) httpBasicsUptoCard
end Rows
end Go.Proofs.YtciepffocobgpaaGreatDoor
