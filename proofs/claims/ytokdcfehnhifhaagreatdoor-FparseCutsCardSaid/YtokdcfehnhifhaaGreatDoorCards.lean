/-
  DERIVED. GIVEN WITH THE SEED: THE CARDS: each row of YtokdcfehnhifhaaGreatDoorRows.lean that lists a variable, with what it lists TIED to the program's text (the seventh form; the later family's looks); each row that meets fmt, with fmt's text TOLD by the authors' own Lean function (tested against real Go, not proved from fmt's source: count such statements apart). THE CARD IS WHAT COUNTS. Prove the row's statement (the work); the ties are given (YtokdcfehnhifhaaGreatDoorTie.lean); close each card by the builder's one call (the guide's Derived/Test/ToyasCard.lean, 'card_holds'). Laid BY PROGRAM, IN A SANDBOX (cutbox-door.mjs). By AI agents, Wed Nov 11 2026. No macro, syntax, notation, axiom, sorry.
-/
import Derived.Test.YtokdcfehnhifhaaGreatDoorRows
import GoSem.ClaimSeven
namespace Go.Proofs.YtokdcfehnhifhaaGreatDoor
namespace Rows

/-- THE TIED CARD OF 'plumblinelaw05.FparseParses'. -/
def fparseParsesCard : Claim7 := { stood := { row := fparseParsesRow, standIns := [], harness := (true, "efa98a241abbafda4a8c3ae81dc75748fc1bdaf58a1c65445a428a8c5d8f04ef"), looks := true }, kinds := [], alts := [], laidByText := true, laidKinds := [.data, .data, .data, .data, .sentinel, .sentinel, .pinned], laidTests := true, laidLooks := .later }
def FparseParsesCardSaid : Prop := Claim7.holds Tryz.pinned (.plain (OpenSpec.ofChange fparseParsesSpec)) fparseParsesCard

/-- THE TIED CARD OF 'plumblinelaw05.FparsePrints'. -/
def fparsePrintsCard : Claim7 := { stood := { row := fparsePrintsRow, standIns := [], harness := (true, "efa98a241abbafda4a8c3ae81dc75748fc1bdaf58a1c65445a428a8c5d8f04ef"), looks := true }, kinds := [], alts := [], laidByText := true, laidKinds := [.data, .data, .data, .data, .sentinel, .sentinel, .pinned], laidTests := true, laidLooks := .later }
def FparsePrintsCardSaid : Prop := Claim7.holds Tryz.pinned (.plain (OpenSpec.ofChange fparsePrintsSpec)) fparsePrintsCard

/-- THE TIED CARD OF 'plumblinelaw05.FparseBack'. -/
def fparseBackCard : Claim7 := { stood := { row := fparseBackRow, standIns := [], harness := (true, "efa98a241abbafda4a8c3ae81dc75748fc1bdaf58a1c65445a428a8c5d8f04ef"), looks := true }, kinds := [], alts := [], laidByText := true, laidKinds := [.data, .data, .data, .data, .sentinel, .sentinel, .pinned], laidTests := true, laidLooks := .later }
def FparseBackCardSaid : Prop := Claim7.holds Tryz.pinned (.plain (OpenSpec.ofChange fparseBackSpec)) fparseBackCard

/-- THE TIED CARD OF 'plumblinelaw05.FparseAgain'. -/
def fparseAgainCard : Claim7 := { stood := { row := fparseAgainRow, standIns := [], harness := (true, "efa98a241abbafda4a8c3ae81dc75748fc1bdaf58a1c65445a428a8c5d8f04ef"), looks := true }, kinds := [], alts := [], laidByText := true, laidKinds := [.data, .data, .data, .data, .sentinel, .sentinel, .pinned], laidTests := true, laidLooks := .later }
def FparseAgainCardSaid : Prop := Claim7.holds Tryz.pinned (.plain (OpenSpec.ofChange fparseAgainSpec)) fparseAgainCard

/-- THE TIED CARD OF 'plumblinelaw05.FparseJoins'. -/
def fparseJoinsCard : Claim7 := { stood := { row := fparseJoinsRow, standIns := [], harness := (true, "efa98a241abbafda4a8c3ae81dc75748fc1bdaf58a1c65445a428a8c5d8f04ef"), looks := true }, kinds := [], alts := [], laidByText := true, laidKinds := [.data, .data, .data, .data, .sentinel, .sentinel, .pinned], laidTests := true, laidLooks := .later }
def FparseJoinsCardSaid : Prop := Claim7.holds Tryz.pinned (.plain (OpenSpec.ofChange fparseJoinsSpec)) fparseJoinsCard

/-- THE TIED CARD OF 'plumblinelaw05.FparseCuts'. -/
def fparseCutsCard : Claim7 := { stood := { row := fparseCutsRow, standIns := [], harness := (true, "efa98a241abbafda4a8c3ae81dc75748fc1bdaf58a1c65445a428a8c5d8f04ef"), looks := true }, kinds := [], alts := [], laidByText := true, laidKinds := [.data, .data, .data, .data, .sentinel, .sentinel, .pinned], laidTests := true, laidLooks := .later }
def FparseCutsCardSaid : Prop := Claim7.holds Tryz.pinned (.plain (OpenSpec.ofChange fparseCutsSpec)) fparseCutsCard

/-- THE TIED CARD OF 'plumblinelaw05.FparseSame'. -/
def fparseSameCard : Claim7 := { stood := { row := fparseSameRow, standIns := [], harness := (true, "efa98a241abbafda4a8c3ae81dc75748fc1bdaf58a1c65445a428a8c5d8f04ef"), looks := true }, kinds := [], alts := [], laidByText := true, laidKinds := [.data, .data, .data, .data, .sentinel, .sentinel, .pinned], laidTests := true, laidLooks := .later }
def FparseSameCardSaid : Prop := Claim7.holds Tryz.pinned (.plain (OpenSpec.ofChange fparseSameSpec)) fparseSameCard

/-- THE TIED CARD OF 'plumblinelaw05.FparseOrder'. -/
def fparseOrderCard : Claim7 := { stood := { row := fparseOrderRow, standIns := [], harness := (true, "efa98a241abbafda4a8c3ae81dc75748fc1bdaf58a1c65445a428a8c5d8f04ef"), looks := true }, kinds := [], alts := [], laidByText := true, laidKinds := [.data, .data, .data, .data, .sentinel, .sentinel, .pinned], laidTests := true, laidLooks := .later }
def FparseOrderCardSaid : Prop := Claim7.holds Tryz.pinned (.plain (OpenSpec.ofChange fparseOrderSpec)) fparseOrderCard

/-- THE SECOND FORM's CARD OF 'plumblinelaw05.FparseParses'. -/
def fparseParsesUptoCard : Claim7 := { stood := { row := fparseParsesUptoRow, standIns := [], harness := (true, "efa98a241abbafda4a8c3ae81dc75748fc1bdaf58a1c65445a428a8c5d8f04ef"), looks := true }, kinds := [], alts := [], laidByText := true, laidKinds := [.data, .data, .data, .data, .sentinel, .sentinel, .pinned], laidTests := true, laidLooks := .later }
def FparseParsesUptoCardSaid : Prop := Claim7.holds Tryz.pinned (.plain (OpenSpec.upto fparseParsesSpec)) fparseParsesUptoCard

/-- THE SECOND FORM's CARD OF 'plumblinelaw05.FparsePrints'. -/
def fparsePrintsUptoCard : Claim7 := { stood := { row := fparsePrintsUptoRow, standIns := [], harness := (true, "efa98a241abbafda4a8c3ae81dc75748fc1bdaf58a1c65445a428a8c5d8f04ef"), looks := true }, kinds := [], alts := [], laidByText := true, laidKinds := [.data, .data, .data, .data, .sentinel, .sentinel, .pinned], laidTests := true, laidLooks := .later }
def FparsePrintsUptoCardSaid : Prop := Claim7.holds Tryz.pinned (.plain (OpenSpec.upto fparsePrintsSpec)) fparsePrintsUptoCard

/-- THE SECOND FORM's CARD OF 'plumblinelaw05.FparseBack'. -/
def fparseBackUptoCard : Claim7 := { stood := { row := fparseBackUptoRow, standIns := [], harness := (true, "efa98a241abbafda4a8c3ae81dc75748fc1bdaf58a1c65445a428a8c5d8f04ef"), looks := true }, kinds := [], alts := [], laidByText := true, laidKinds := [.data, .data, .data, .data, .sentinel, .sentinel, .pinned], laidTests := true, laidLooks := .later }
def FparseBackUptoCardSaid : Prop := Claim7.holds Tryz.pinned (.plain (OpenSpec.upto fparseBackSpec)) fparseBackUptoCard

/-- THE SECOND FORM's CARD OF 'plumblinelaw05.FparseAgain'. -/
def fparseAgainUptoCard : Claim7 := { stood := { row := fparseAgainUptoRow, standIns := [], harness := (true, "efa98a241abbafda4a8c3ae81dc75748fc1bdaf58a1c65445a428a8c5d8f04ef"), looks := true }, kinds := [], alts := [], laidByText := true, laidKinds := [.data, .data, .data, .data, .sentinel, .sentinel, .pinned], laidTests := true, laidLooks := .later }
def FparseAgainUptoCardSaid : Prop := Claim7.holds Tryz.pinned (.plain (OpenSpec.upto fparseAgainSpec)) fparseAgainUptoCard

/-- THE SECOND FORM's CARD OF 'plumblinelaw05.FparseJoins'. -/
def fparseJoinsUptoCard : Claim7 := { stood := { row := fparseJoinsUptoRow, standIns := [], harness := (true, "efa98a241abbafda4a8c3ae81dc75748fc1bdaf58a1c65445a428a8c5d8f04ef"), looks := true }, kinds := [], alts := [], laidByText := true, laidKinds := [.data, .data, .data, .data, .sentinel, .sentinel, .pinned], laidTests := true, laidLooks := .later }
def FparseJoinsUptoCardSaid : Prop := Claim7.holds Tryz.pinned (.plain (OpenSpec.upto fparseJoinsSpec)) fparseJoinsUptoCard

/-- THE SECOND FORM's CARD OF 'plumblinelaw05.FparseCuts'. -/
def fparseCutsUptoCard : Claim7 := { stood := { row := fparseCutsUptoRow, standIns := [], harness := (true, "efa98a241abbafda4a8c3ae81dc75748fc1bdaf58a1c65445a428a8c5d8f04ef"), looks := true }, kinds := [], alts := [], laidByText := true, laidKinds := [.data, .data, .data, .data, .sentinel, .sentinel, .pinned], laidTests := true, laidLooks := .later }
def FparseCutsUptoCardSaid : Prop := Claim7.holds Tryz.pinned (.plain (OpenSpec.upto fparseCutsSpec)) fparseCutsUptoCard

/-- THE SECOND FORM's CARD OF 'plumblinelaw05.FparseSame'. -/
def fparseSameUptoCard : Claim7 := { stood := { row := fparseSameUptoRow, standIns := [], harness := (true, "efa98a241abbafda4a8c3ae81dc75748fc1bdaf58a1c65445a428a8c5d8f04ef"), looks := true }, kinds := [], alts := [], laidByText := true, laidKinds := [.data, .data, .data, .data, .sentinel, .sentinel, .pinned], laidTests := true, laidLooks := .later }
def FparseSameUptoCardSaid : Prop := Claim7.holds Tryz.pinned (.plain (OpenSpec.upto fparseSameSpec)) fparseSameUptoCard

/-- THE SECOND FORM's CARD OF 'plumblinelaw05.FparseOrder'. -/
def fparseOrderUptoCard : Claim7 := { stood := { row := fparseOrderUptoRow, standIns := [], harness := (true, "efa98a241abbafda4a8c3ae81dc75748fc1bdaf58a1c65445a428a8c5d8f04ef"), looks := true }, kinds := [], alts := [], laidByText := true, laidKinds := [.data, .data, .data, .data, .sentinel, .sentinel, .pinned], laidTests := true, laidLooks := .later }
def FparseOrderUptoCardSaid : Prop := Claim7.holds Tryz.pinned (.plain (OpenSpec.upto fparseOrderSpec)) fparseOrderUptoCard
end Rows
end Go.Proofs.YtokdcfehnhifhaaGreatDoor
