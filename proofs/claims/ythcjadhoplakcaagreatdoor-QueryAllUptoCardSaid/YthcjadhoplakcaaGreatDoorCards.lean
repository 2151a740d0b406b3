/-
  DERIVED. GIVEN WITH THE SEED: THE CARDS: each row of YthcjadhoplakcaaGreatDoorRows.lean that lists a variable, with what it lists TIED to the program's text (the seventh form; the later family's looks); each row that meets fmt, with fmt's text TOLD by the authors' own Lean function (tested against real Go, not proved from fmt's source: count such statements apart). THE CARD IS WHAT COUNTS. Prove the row's statement (the work); the ties are given (YthcjadhoplakcaaGreatDoorTie.lean); close each card by the builder's one call (the guide's Derived/Test/ToyasCard.lean, 'card_holds'). Laid BY PROGRAM, IN A SANDBOX (cutbox-door.mjs). By AI agents, Wed Nov 11 2026. No macro, syntax, notation, axiom, sorry.
-/
import Derived.Test.YthcjadhoplakcaaGreatDoorRows
import GoSem.ClaimSeven
namespace Go.Proofs.YthcjadhoplakcaaGreatDoor
namespace Rows

/-- THE TIED CARD OF 'grommetlaw24.QueryMatches'. -/
def queryMatchesCard : Claim7 := { stood := { row := queryMatchesRow, standIns := [], harness := (true, "67801a4dd6b7e49bc555d37ca3683187075b677d9df97786941490774d71a542"), looks := true }, kinds := [], alts := [], laidByText := true, laidKinds := [.data, .data, .data, .data, .sentinel, .sentinel, .pinned], laidTests := true, laidLooks := .later }
def QueryMatchesCardSaid : Prop := Claim7.holds Tryz.pinned (.plain (OpenSpec.ofChange queryMatchesSpec)) queryMatchesCard

/-- THE TIED CARD OF 'grommetlaw24.QueryAll'. -/
def queryAllCard : Claim7 := { stood := { row := queryAllRow, standIns := [], harness := (true, "67801a4dd6b7e49bc555d37ca3683187075b677d9df97786941490774d71a542"), looks := true }, kinds := [], alts := [], laidByText := true, laidKinds := [.data, .data, .data, .data, .sentinel, .sentinel, .pinned], laidTests := true, laidLooks := .later }
def QueryAllCardSaid : Prop := Claim7.holds Tryz.pinned (.plain (OpenSpec.ofChange queryAllSpec)) queryAllCard

/-- THE TIED CARD OF 'grommetlaw24.QueryMeet'. -/
def queryMeetCard : Claim7 := { stood := { row := queryMeetRow, standIns := [], harness := (true, "67801a4dd6b7e49bc555d37ca3683187075b677d9df97786941490774d71a542"), looks := true }, kinds := [], alts := [], laidByText := true, laidKinds := [.data, .data, .data, .data, .sentinel, .sentinel, .pinned], laidTests := true, laidLooks := .later }
def QueryMeetCardSaid : Prop := Claim7.holds Tryz.pinned (.plain (OpenSpec.ofChange queryMeetSpec)) queryMeetCard

/-- THE TIED CARD OF 'grommetlaw17.EditSets'. -/
def editSetsCard : Claim7 := { stood := { row := editSetsRow, standIns := [], harness := (true, "67801a4dd6b7e49bc555d37ca3683187075b677d9df97786941490774d71a542"), looks := true }, kinds := [], alts := [], laidByText := true, laidKinds := [.data, .data, .data, .data, .sentinel, .sentinel, .pinned], laidTests := true, laidLooks := .later }
def EditSetsCardSaid : Prop := Claim7.holds Tryz.pinned (.plain (OpenSpec.ofChange editSetsSpec)) editSetsCard

/-- THE TIED CARD OF 'grommetlaw17.EditBack'. -/
def editBackCard : Claim7 := { stood := { row := editBackRow, standIns := [], harness := (true, "67801a4dd6b7e49bc555d37ca3683187075b677d9df97786941490774d71a542"), looks := true }, kinds := [], alts := [], laidByText := true, laidKinds := [.data, .data, .data, .data, .sentinel, .sentinel, .pinned], laidTests := true, laidLooks := .later }
def EditBackCardSaid : Prop := Claim7.holds Tryz.pinned (.plain (OpenSpec.ofChange editBackSpec)) editBackCard

/-- THE TIED CARD OF 'grommetlaw17.EditMerges'. -/
def editMergesCard : Claim7 := { stood := { row := editMergesRow, standIns := [], harness := (true, "67801a4dd6b7e49bc555d37ca3683187075b677d9df97786941490774d71a542"), looks := true }, kinds := [], alts := [], laidByText := true, laidKinds := [.data, .data, .data, .data, .sentinel, .sentinel, .pinned], laidTests := true, laidLooks := .later }
def EditMergesCardSaid : Prop := Claim7.holds Tryz.pinned (.plain (OpenSpec.ofChange editMergesSpec)) editMergesCard

/-- THE TIED CARD OF 'grommetlaw17.EditTwice'. -/
def editTwiceCard : Claim7 := { stood := { row := editTwiceRow, standIns := [], harness := (true, "67801a4dd6b7e49bc555d37ca3683187075b677d9df97786941490774d71a542"), looks := true }, kinds := [], alts := [], laidByText := true, laidKinds := [.data, .data, .data, .data, .sentinel, .sentinel, .pinned], laidTests := true, laidLooks := .later }
def EditTwiceCardSaid : Prop := Claim7.holds Tryz.pinned (.plain (OpenSpec.ofChange editTwiceSpec)) editTwiceCard

/-- THE TIED CARD OF 'grommetlaw24.QueryTree'. -/
def queryTreeCard : Claim7 := { stood := { row := queryTreeRow, standIns := [], harness := (true, "67801a4dd6b7e49bc555d37ca3683187075b677d9df97786941490774d71a542"), looks := true }, kinds := [], alts := [], laidByText := true, laidKinds := [.data, .data, .data, .data, .sentinel, .sentinel, .pinned], laidTests := true, laidLooks := .later }
def QueryTreeCardSaid : Prop := Claim7.holds Tryz.pinned (.plain (OpenSpec.ofChange queryTreeSpec)) queryTreeCard

/-- THE TIED CARD OF 'grommetlaw17.EditGone'. -/
def editGoneCard : Claim7 := { stood := { row := editGoneRow, standIns := [], harness := (true, "67801a4dd6b7e49bc555d37ca3683187075b677d9df97786941490774d71a542"), looks := true }, kinds := [], alts := [], laidByText := true, laidKinds := [.data, .data, .data, .data, .sentinel, .sentinel, .pinned], laidTests := true, laidLooks := .later }
def EditGoneCardSaid : Prop := Claim7.holds Tryz.pinned (.plain (OpenSpec.ofChange editGoneSpec)) editGoneCard

/-- THE TIED CARD OF 'grommetlaw17.EditOwn'. -/
def editOwnCard : Claim7 := { stood := { row := editOwnRow, standIns := [], harness := (true, "67801a4dd6b7e49bc555d37ca3683187075b677d9df97786941490774d71a542"), looks := true }, kinds := [], alts := [], laidByText := true, laidKinds := [.data, .data, .data, .data, .sentinel, .sentinel, .pinned], laidTests := true, laidLooks := .later }
def EditOwnCardSaid : Prop := Claim7.holds Tryz.pinned (.plain (OpenSpec.ofChange editOwnSpec)) editOwnCard

/-- THE TIED CARD OF 'grommetlaw17.EditThere'. -/
def editThereCard : Claim7 := { stood := { row := editThereRow, standIns := [], harness := (true, "67801a4dd6b7e49bc555d37ca3683187075b677d9df97786941490774d71a542"), looks := true }, kinds := [], alts := [], laidByText := true, laidKinds := [.data, .data, .data, .data, .sentinel, .sentinel, .pinned], laidTests := true, laidLooks := .later }
def EditThereCardSaid : Prop := Claim7.holds Tryz.pinned (.plain (OpenSpec.ofChange editThereSpec)) editThereCard

/-- THE SECOND FORM's CARD OF 'grommetlaw24.QueryMatches'. -/
def queryMatchesUptoCard : Claim7 := { stood := { row := queryMatchesUptoRow, standIns := [], harness := (true, "67801a4dd6b7e49bc555d37ca3683187075b677d9df97786941490774d71a542"), looks := true }, kinds := [], alts := [], laidByText := true, laidKinds := [.data, .data, .data, .data, .sentinel, .sentinel, .pinned], laidTests := true, laidLooks := .later }
def QueryMatchesUptoCardSaid : Prop := Claim7.holds Tryz.pinned (.plain (OpenSpec.upto queryMatchesSpec)) queryMatchesUptoCard

/-- THE SECOND FORM's CARD OF 'grommetlaw24.QueryAll'. -/
def queryAllUptoCard : Claim7 := { stood := { row := queryAllUptoRow, standIns := [], harness := (true, "67801a4dd6b7e49bc555d37ca3683187075b677d9df97786941490774d71a542"), looks := true }, kinds := [], alts := [], laidByText := true, laidKinds := [.data, .data, .data, .data, .sentinel, .sentinel, .pinned], laidTests := true, laidLooks := .later }
def QueryAllUptoCardSaid : Prop := Claim7.holds Tryz.pinned (.plain (OpenSpec.upto queryAllSpec)) queryAllUptoCard

/-- THE SECOND FORM's CARD OF 'grommetlaw24.QueryMeet'. -/
def queryMeetUptoCard : Claim7 := { stood := { row := queryMeetUptoRow, standIns := [], harness := (true, "67801a4dd6b7e49bc555d37ca3683187075b677d9df97786941490774d71a542"), looks := true }, kinds := [], alts := [], laidByText := true, laidKinds := [.data, .data, .data, .data, .sentinel, .sentinel, .pinned], laidTests := true, laidLooks := .later }
def QueryMeetUptoCardSaid : Prop := Claim7.holds Tryz.pinned (.plain (OpenSpec.upto queryMeetSpec)) queryMeetUptoCard

/-- THE SECOND FORM's CARD OF 'grommetlaw17.EditSets'. -/
def editSetsUptoCard : Claim7 := { stood := { row := editSetsUptoRow, standIns := [], harness := (true, "67801a4dd6b7e49bc555d37ca3683187075b677d9df97786941490774d71a542"), looks := true }, kinds := [], alts := [], laidByText := true, laidKinds := [.data, .data, .data, .data, .sentinel, .sentinel, .pinned], laidTests := true, laidLooks := .later }
def EditSetsUptoCardSaid : Prop := Claim7.holds Tryz.pinned (.plain (OpenSpec.upto editSetsSpec)) editSetsUptoCard

/-- THE SECOND FORM's CARD OF 'grommetlaw17.EditBack'. -/
def editBackUptoCard : Claim7 := { stood := { row := editBackUptoRow, standIns := [], harness := (true, "67801a4dd6b7e49bc555d37ca3683187075b677d9df97786941490774d71a542"), looks := true }, kinds := [], alts := [], laidByText := true, laidKinds := [.data, .data, .data, .data, .sentinel, .sentinel, .pinned], laidTests := true, laidLooks := .later }
def EditBackUptoCardSaid : Prop := Claim7.holds Tryz.pinned (.plain (OpenSpec.upto editBackSpec)) editBackUptoCard

/-- THE SECOND FORM's CARD OF 'grommetlaw17.EditMerges'. -/
def editMergesUptoCard : Claim7 := { stood := { row := editMergesUptoRow, standIns := [], harness := (true, "67801a4dd6b7e49bc555d37ca3683187075b677d9df97786941490774d71a542"), looks := true }, kinds := [], alts := [], laidByText := true, laidKinds := [.data, .data, .data, .data, .sentinel, .sentinel, .pinned], laidTests := true, laidLooks := .later }
def EditMergesUptoCardSaid : Prop := Claim7.holds Tryz.pinned (.plain (OpenSpec.upto editMergesSpec)) editMergesUptoCard

/-- THE SECOND FORM's CARD OF 'grommetlaw17.EditTwice'. -/
def editTwiceUptoCard : Claim7 := { stood := { row := editTwiceUptoRow, standIns := [], harness := (true, "67801a4dd6b7e49bc555d37ca3683187075b677d9df97786941490774d71a542"), looks := true }, kinds := [], alts := [], laidByText := true, laidKinds := [.data, .data, .data, .data, .sentinel, .sentinel, .pinned], laidTests := true, laidLooks := .later }
def EditTwiceUptoCardSaid : Prop := Claim7.holds Tryz.pinned (.plain (OpenSpec.upto editTwiceSpec)) editTwiceUptoCard

/-- THE SECOND FORM's CARD OF 'grommetlaw24.QueryTree'. -/
def queryTreeUptoCard : Claim7 := { stood := { row := queryTreeUptoRow, standIns := [], harness := (true, "67801a4dd6b7e49bc555d37ca3683187075b677d9df97786941490774d71a542"), looks := true }, kinds := [], alts := [], laidByText := true, laidKinds := [.data, .data, .data, .data, .sentinel, .sentinel, .pinned], laidTests := true, laidLooks := .later }
def QueryTreeUptoCardSaid : Prop := Claim7.holds Tryz.pinned (.plain (OpenSpec.upto queryTreeSpec)) queryTreeUptoCard

/-- THE SECOND FORM's CARD OF 'grommetlaw17.EditGone'. -/
def editGoneUptoCard : Claim7 := { stood := { row := editGoneUptoRow, standIns := [], harness := (true, "67801a4dd6b7e49bc555d37ca3683187075b677d9df97786941490774d71a542"), looks := true }, kinds := [], alts := [], laidByText := true, laidKinds := [.data, .data, .data, .data, .sentinel, .sentinel, .pinned], laidTests := true, laidLooks := .later }
def EditGoneUptoCardSaid : Prop := Claim7.holds Tryz.pinned (.plain (OpenSpec.upto editGoneSpec)) editGoneUptoCard

/-- THE SECOND FORM's CARD OF 'grommetlaw17.EditOwn'. -/
def editOwnUptoCard : Claim7 := { stood := { row := editOwnUptoRow, standIns := [], harness := (true, "67801a4dd6b7e49bc555d37ca3683187075b677d9df97786941490774d71a542"), looks := true }, kinds := [], alts := [], laidByText := true, laidKinds := [.data, .data, .data, .data, .sentinel, .sentinel, .pinned], laidTests := true, laidLooks := .later }
def EditOwnUptoCardSaid : Prop := Claim7.holds Tryz.pinned (.plain (OpenSpec.upto editOwnSpec)) editOwnUptoCard

/-- THE SECOND FORM's CARD OF 'grommetlaw17.EditThere'. -/
def editThereUptoCard : Claim7 := { stood := { row := editThereUptoRow, standIns := [], harness := (true, "67801a4dd6b7e49bc555d37ca3683187075b677d9df97786941490774d71a542"), looks := true }, kinds := [], alts := [], laidByText := true, laidKinds := [.data, .data, .data, .data, .sentinel, .sentinel, .pinned], laidTests := true, laidLooks := .later }
def EditThereUptoCardSaid : Prop := Claim7.holds Tryz.pinned (.plain (OpenSpec.upto editThereSpec)) editThereUptoCard
end Rows
end Go.Proofs.YthcjadhoplakcaaGreatDoor
