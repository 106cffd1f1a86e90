/-
  No cell of these rows narrows 'for every input' (looked for: loops, veiled, ifaces, maps, wideKeys, modest, calm, conditions, laid).
  DERIVED. THE GIVEN ROWS OF THIS SEAT. 7 by the template 'for every input the law returns true; each argument reads behind the call as it read before'; 0 by the template 'total and deterministic' (their statements: YtmdaedeagiamkaaTotals.lean).
  GIVEN WITH THE SEED: the statements are not yours to turn. If you find one false, say at which input.
  Laid BY PROGRAM, IN A SANDBOX (cutbox-rows.mjs): the forced cells as the released guide's own fill.sh prints them over the translation 5c07769e7ec769dd… (all of the seat's roots in one cut). By AI agents, Wed Nov 11 2026. No macro, syntax, notation, axiom, sorry.
-/
import Derived.Test.YtmdaedeagiamkaaChecked
import GoSem.Claim
import GoSem.ClaimJoined
import GoSem.ClaimMapViews
import Derived.JoinedTies
import Derived.KernelRfl
namespace Go.Proofs.Ytmdaedeagiamkaa
/- THE CELL 'sum', in the pinned program and in every row, IS THE sha256 OF THE DUMP (.gsa) THAT YtmdaedeagiamkaaProg.lean LOADS. Nothing in Lean hashes anything: it is a label: what it is worth is what the hold of that sum in a sandbox is worth. -/
noncomputable def Try.pinned : Pinned := { name := "ytmdaedeagiamkaa", sum := "5c07769e7ec769dd8da13c891a8f7d93571a130975897258d25624e99d7beab9", checked := Try.checked }
namespace Rows
def none {H : Type} : Left H := { results := [], args := [] }

/-- 'plumblinelaw04.FlexScans': WHATEVER THE INPUT: true; the input reads as it did. -/
def flexScansSpec : ChangeSpec := { name := "flexScans", fn := fun _ => fun
  | [d] => { results := [.lit (.bool true)], args := [d] }
  | _ => none }
def flexScansRow : OpenClaim := { program := "ytmdaedeagiamkaa", sum := "5c07769e7ec769dd8da13c891a8f7d93571a130975897258d25624e99d7beab9", func := "plumbline/plumblinelaw04.FlexScans", spec := "flexScans", inPlace := ["internal/bytealg.IndexByteString", "internal/bytealg.IndexString"], unfollowed := true, recurses := true, named := ["internal/bytealg.MaxLen"], apart := false }
def FlexScansSaid : Prop := flexScansRow.holds Try.pinned (OpenSpec.ofChange flexScansSpec)

/-- ITS FALSE NEIGHBOUR: 'it returns false'. Refute it at one input. -/
def flexScansWrong : ChangeSpec := { name := "flexScans", fn := fun _ => fun
  | [d] => { results := [.lit (.bool false)], args := [d] }
  | _ => none }
def FlexScansWrongFalsely : Prop := flexScansRow.holds Try.pinned (OpenSpec.ofChange flexScansWrong)

/-- 'plumblinelaw04.FlexNames': WHATEVER THE INPUT: true; the input reads as it did. -/
def flexNamesSpec : ChangeSpec := { name := "flexNames", fn := fun _ => fun
  | [d] => { results := [.lit (.bool true)], args := [d] }
  | _ => none }
def flexNamesRow : OpenClaim := { program := "ytmdaedeagiamkaa", sum := "5c07769e7ec769dd8da13c891a8f7d93571a130975897258d25624e99d7beab9", func := "plumbline/plumblinelaw04.FlexNames", spec := "flexNames", inPlace := ["internal/bytealg.IndexByteString", "internal/bytealg.IndexString"], unfollowed := true, recurses := true, named := ["internal/bytealg.MaxLen"], apart := false }
def FlexNamesSaid : Prop := flexNamesRow.holds Try.pinned (OpenSpec.ofChange flexNamesSpec)

/-- ITS FALSE NEIGHBOUR: 'it returns false'. Refute it at one input. -/
def flexNamesWrong : ChangeSpec := { name := "flexNames", fn := fun _ => fun
  | [d] => { results := [.lit (.bool false)], args := [d] }
  | _ => none }
def FlexNamesWrongFalsely : Prop := flexNamesRow.holds Try.pinned (OpenSpec.ofChange flexNamesWrong)

/-- 'plumblinelaw04.FlexBlanks': WHATEVER THE INPUT: true; the input reads as it did. -/
def flexBlanksSpec : ChangeSpec := { name := "flexBlanks", fn := fun _ => fun
  | [d1, d2] => { results := [.lit (.bool true)], args := [d1, d2] }
  | _ => none }
def flexBlanksRow : OpenClaim := { program := "ytmdaedeagiamkaa", sum := "5c07769e7ec769dd8da13c891a8f7d93571a130975897258d25624e99d7beab9", func := "plumbline/plumblinelaw04.FlexBlanks", spec := "flexBlanks", inPlace := ["internal/bytealg.IndexByteString", "internal/bytealg.IndexString"], unfollowed := true, recurses := true, named := ["internal/bytealg.MaxLen"], apart := false }
def FlexBlanksSaid : Prop := flexBlanksRow.holds Try.pinned (OpenSpec.ofChange flexBlanksSpec)

/-- ITS FALSE NEIGHBOUR: 'it returns false'. Refute it at one input. -/
def flexBlanksWrong : ChangeSpec := { name := "flexBlanks", fn := fun _ => fun
  | [d1, d2] => { results := [.lit (.bool false)], args := [d1, d2] }
  | _ => none }
def FlexBlanksWrongFalsely : Prop := flexBlanksRow.holds Try.pinned (OpenSpec.ofChange flexBlanksWrong)

/-- 'plumblinelaw04.FlexPlaces': WHATEVER THE INPUT: true; the input reads as it did. -/
def flexPlacesSpec : ChangeSpec := { name := "flexPlaces", fn := fun _ => fun
  | [d] => { results := [.lit (.bool true)], args := [d] }
  | _ => none }
def flexPlacesRow : OpenClaim := { program := "ytmdaedeagiamkaa", sum := "5c07769e7ec769dd8da13c891a8f7d93571a130975897258d25624e99d7beab9", func := "plumbline/plumblinelaw04.FlexPlaces", spec := "flexPlaces", inPlace := ["internal/bytealg.IndexByteString", "internal/bytealg.IndexString"], unfollowed := true, recurses := true, named := ["internal/bytealg.MaxLen"], apart := false }
def FlexPlacesSaid : Prop := flexPlacesRow.holds Try.pinned (OpenSpec.ofChange flexPlacesSpec)

/-- ITS FALSE NEIGHBOUR: 'it returns false'. Refute it at one input. -/
def flexPlacesWrong : ChangeSpec := { name := "flexPlaces", fn := fun _ => fun
  | [d] => { results := [.lit (.bool false)], args := [d] }
  | _ => none }
def FlexPlacesWrongFalsely : Prop := flexPlacesRow.holds Try.pinned (OpenSpec.ofChange flexPlacesWrong)

/-- 'plumblinelaw04.FlexNumbers': WHATEVER THE INPUT: true; the input reads as it did. -/
def flexNumbersSpec : ChangeSpec := { name := "flexNumbers", fn := fun _ => fun
  | [d1, d2] => { results := [.lit (.bool true)], args := [d1, d2] }
  | _ => none }
def flexNumbersRow : OpenClaim := { program := "ytmdaedeagiamkaa", sum := "5c07769e7ec769dd8da13c891a8f7d93571a130975897258d25624e99d7beab9", func := "plumbline/plumblinelaw04.FlexNumbers", spec := "flexNumbers", inPlace := ["internal/bytealg.IndexByteString", "internal/bytealg.IndexString"], unfollowed := true, recurses := true, named := ["internal/bytealg.MaxLen"], apart := false }
def FlexNumbersSaid : Prop := flexNumbersRow.holds Try.pinned (OpenSpec.ofChange flexNumbersSpec)

/-- ITS FALSE NEIGHBOUR: 'it returns false'. Refute it at one input. -/
def flexNumbersWrong : ChangeSpec := { name := "flexNumbers", fn := fun _ => fun
  | [d1, d2] => { results := [.lit (.bool false)], args := [d1, d2] }
  | _ => none }
def FlexNumbersWrongFalsely : Prop := flexNumbersRow.holds Try.pinned (OpenSpec.ofChange flexNumbersWrong)

/-- 'plumblinelaw04.FlexOne': WHATEVER THE INPUT: true; the input reads as it did. -/
def flexOneSpec : ChangeSpec := { name := "flexOne", fn := fun _ => fun
  | [d] => { results := [.lit (.bool true)], args := [d] }
  | _ => none }
def flexOneRow : OpenClaim := { program := "ytmdaedeagiamkaa", sum := "5c07769e7ec769dd8da13c891a8f7d93571a130975897258d25624e99d7beab9", func := "plumbline/plumblinelaw04.FlexOne", spec := "flexOne", inPlace := ["internal/bytealg.IndexByteString", "internal/bytealg.IndexString"], unfollowed := true, recurses := true, named := ["internal/bytealg.MaxLen"], apart := false }
def FlexOneSaid : Prop := flexOneRow.holds Try.pinned (OpenSpec.ofChange flexOneSpec)

/-- ITS FALSE NEIGHBOUR: 'it returns false'. Refute it at one input. -/
def flexOneWrong : ChangeSpec := { name := "flexOne", fn := fun _ => fun
  | [d] => { results := [.lit (.bool false)], args := [d] }
  | _ => none }
def FlexOneWrongFalsely : Prop := flexOneRow.holds Try.pinned (OpenSpec.ofChange flexOneWrong)

/-- 'plumblinelaw04.FlexBack': WHATEVER THE INPUT: true; the input reads as it did. -/
def flexBackSpec : ChangeSpec := { name := "flexBack", fn := fun _ => fun
  | [d] => { results := [.lit (.bool true)], args := [d] }
  | _ => none }
def flexBackRow : OpenClaim := { program := "ytmdaedeagiamkaa", sum := "5c07769e7ec769dd8da13c891a8f7d93571a130975897258d25624e99d7beab9", func := "plumbline/plumblinelaw04.FlexBack", spec := "flexBack", inPlace := ["internal/bytealg.IndexByteString", "internal/bytealg.IndexString", "internal/abi.NoEscape", "internal/bytealg.MakeNoZero"], unfollowed := true, recurses := true, named := ["internal/bytealg.MaxLen"], apart := false }
def FlexBackSaid : Prop := flexBackRow.holds Try.pinned (OpenSpec.ofChange flexBackSpec)

/-- ITS FALSE NEIGHBOUR: 'it returns false'. Refute it at one input. -/
def flexBackWrong : ChangeSpec := { name := "flexBack", fn := fun _ => fun
  | [d] => { results := [.lit (.bool false)], args := [d] }
  | _ => none }
def FlexBackWrongFalsely : Prop := flexBackRow.holds Try.pinned (OpenSpec.ofChange flexBackWrong)

/- THE SECOND FORM. 'bulk': how many values and letters a reading holds, each counted each time it is reached (what is shared counts as often as it is met; a slice's spare places count too). A statement '..UptoSaid' is the law's where the arguments, and the package variables that the reading takes, are together of bulk at most 1048576: NARROWER than '..Said'. Prove '..Said' where nothing that the law and all that it calls make is longer than what came in: it says more and counts as full. Else prove '..UptoSaid'. A law counts once. -/
mutual
def uptoBulk {H : Type} : DataW H → Nat
  | .lit (.string bytes) => bytes.length + 1
  | .lit _ => 1
  | .nil => 1
  | .ptr d => uptoBulk d + 1
  | .slice elems spare => uptoBulkAll elems + uptoBulkAll spare + 1
  | .agg parts => uptoBulkAll parts + 1
  | .iface _ d => uptoBulk d + 1
  | .map entries => uptoBulkEntries entries + 1
  | .held _ => 1
def uptoBulkAll {H : Type} : List (DataW H) → Nat
  | [] => 0
  | d :: r => uptoBulk d + uptoBulkAll r
def uptoBulkEntries {H : Type} : List (Lit × DataW H) → Nat
  | [] => 0
  | x :: r => uptoBulkEntry x + uptoBulkEntries r
def uptoBulkEntry {H : Type} : Lit × DataW H → Nat
  | (.string bytes, d) => bytes.length + uptoBulk d + 1
  | (_, d) => uptoBulk d + 1
 end
def uptoSmall : (H : Type) → List (DataW H) → Bool := fun _ ds => decide (uptoBulkAll ds ≤ 1048576)
def OpenSpec.upto (s : _root_.Go.ChangeSpec) : _root_.Go.OpenSpec := { _root_.Go.OpenSpec.ofChange s with cond := some uptoSmall }

/-- 'plumblinelaw04.FlexScans', WHERE WHAT IT READS IS OF BULK AT MOST 1048576: true; the input reads as it did. -/
def flexScansUptoRow : OpenClaim := { program := "ytmdaedeagiamkaa", sum := "5c07769e7ec769dd8da13c891a8f7d93571a130975897258d25624e99d7beab9", func := "plumbline/plumblinelaw04.FlexScans", spec := "flexScans", inPlace := ["internal/bytealg.IndexByteString", "internal/bytealg.IndexString"], unfollowed := true, recurses := true, named := ["internal/bytealg.MaxLen"], apart := false, narrowed := true }
def FlexScansUptoSaid : Prop := flexScansUptoRow.holds Try.pinned (OpenSpec.upto flexScansSpec)

/-- 'plumblinelaw04.FlexNames', WHERE WHAT IT READS IS OF BULK AT MOST 1048576: true; the input reads as it did. -/
def flexNamesUptoRow : OpenClaim := { program := "ytmdaedeagiamkaa", sum := "5c07769e7ec769dd8da13c891a8f7d93571a130975897258d25624e99d7beab9", func := "plumbline/plumblinelaw04.FlexNames", spec := "flexNames", inPlace := ["internal/bytealg.IndexByteString", "internal/bytealg.IndexString"], unfollowed := true, recurses := true, named := ["internal/bytealg.MaxLen"], apart := false, narrowed := true }
def FlexNamesUptoSaid : Prop := flexNamesUptoRow.holds Try.pinned (OpenSpec.upto flexNamesSpec)

/-- 'plumblinelaw04.FlexBlanks', WHERE WHAT IT READS IS OF BULK AT MOST 1048576: true; the input reads as it did. -/
def flexBlanksUptoRow : OpenClaim := { program := "ytmdaedeagiamkaa", sum := "5c07769e7ec769dd8da13c891a8f7d93571a130975897258d25624e99d7beab9", func := "plumbline/plumblinelaw04.FlexBlanks", spec := "flexBlanks", inPlace := ["internal/bytealg.IndexByteString", "internal/bytealg.IndexString"], unfollowed := true, recurses := true, named := ["internal/bytealg.MaxLen"], apart := false, narrowed := true }
def FlexBlanksUptoSaid : Prop := flexBlanksUptoRow.holds Try.pinned (OpenSpec.upto flexBlanksSpec)

/-- 'plumblinelaw04.FlexPlaces', WHERE WHAT IT READS IS OF BULK AT MOST 1048576: true; the input reads as it did. -/
def flexPlacesUptoRow : OpenClaim := { program := "ytmdaedeagiamkaa", sum := "5c07769e7ec769dd8da13c891a8f7d93571a130975897258d25624e99d7beab9", func := "plumbline/plumblinelaw04.FlexPlaces", spec := "flexPlaces", inPlace := ["internal/bytealg.IndexByteString", "internal/bytealg.IndexString"], unfollowed := true, recurses := true, named := ["internal/bytealg.MaxLen"], apart := false, narrowed := true }
def FlexPlacesUptoSaid : Prop := flexPlacesUptoRow.holds Try.pinned (OpenSpec.upto flexPlacesSpec)

/-- 'plumblinelaw04.FlexNumbers', WHERE WHAT IT READS IS OF BULK AT MOST 1048576: true; the input reads as it did. -/
def flexNumbersUptoRow : OpenClaim := { program := "ytmdaedeagiamkaa", sum := "5c07769e7ec769dd8da13c891a8f7d93571a130975897258d25624e99d7beab9", func := "plumbline/plumblinelaw04.FlexNumbers", spec := "flexNumbers", inPlace := ["internal/bytealg.IndexByteString", "internal/bytealg.IndexString"], unfollowed := true, recurses := true, named := ["internal/bytealg.MaxLen"], apart := false, narrowed := true }
def FlexNumbersUptoSaid : Prop := flexNumbersUptoRow.holds Try.pinned (OpenSpec.upto flexNumbersSpec)

/-- 'plumblinelaw04.FlexOne', WHERE WHAT IT READS IS OF BULK AT MOST 1048576: true; the input reads as it did. -/
def flexOneUptoRow : OpenClaim := { program := "ytmdaedeagiamkaa", sum := "5c07769e7ec769dd8da13c891a8f7d93571a130975897258d25624e99d7beab9", func := "plumbline/plumblinelaw04.FlexOne", spec := "flexOne", inPlace := ["internal/bytealg.IndexByteString", "internal/bytealg.IndexString"], unfollowed := true, recurses := true, named := ["internal/bytealg.MaxLen"], apart := false, narrowed := true }
def FlexOneUptoSaid : Prop := flexOneUptoRow.holds Try.pinned (OpenSpec.upto flexOneSpec)

/-- 'plumblinelaw04.FlexBack', WHERE WHAT IT READS IS OF BULK AT MOST 1048576: true; the input reads as it did. -/
def flexBackUptoRow : OpenClaim := { program := "ytmdaedeagiamkaa", sum := "5c07769e7ec769dd8da13c891a8f7d93571a130975897258d25624e99d7beab9", func := "plumbline/plumblinelaw04.FlexBack", spec := "flexBack", inPlace := ["internal/bytealg.IndexByteString", "internal/bytealg.IndexString", "internal/abi.NoEscape", "internal/bytealg.MakeNoZero"], unfollowed := true, recurses := true, named := ["internal/bytealg.MaxLen"], apart := false, narrowed := true }
def FlexBackUptoSaid : Prop := flexBackUptoRow.holds Try.pinned (OpenSpec.upto flexBackSpec)

end Rows
end Go.Proofs.Ytmdaedeagiamkaa
