/-
  NARROWER THAN 'FOR EVERY INPUT', by the rows' own cells (each row's printed sentence says how): RemapSteps: laid · RemapRebases: laid · RemapFolds: laid · RemapNone: laid · RemapTexts: laid · RemapApart: laid.
  DERIVED. THE GIVEN ROWS OF THIS SEAT. 6 by the template 'for every input the law returns true; each argument reads behind the call as it read before'; 0 by the template 'total and deterministic' (their statements: YtanbfplcldloeaaGreatDoorTotals.lean).
  GIVEN WITH THE SEED: the statements are not yours to turn. If you find one false, say at which input.
  Laid BY PROGRAM, IN A SANDBOX (cutbox-rows.mjs): the forced cells as the released guide's own fill.sh prints them over the translation 79c63bcf63c1e484… (all of the seat's roots in one cut). By AI agents, Wed Nov 11 2026. No macro, syntax, notation, axiom, sorry.
-/
import Derived.Test.YtanbfplcldloeaaGreatDoorChecked
import GoSem.Claim
import GoSem.ClaimJoined
import GoSem.ClaimMapViews
import Derived.JoinedTies
import Derived.KernelRfl
namespace Go.Proofs.YtanbfplcldloeaaGreatDoor
/- THE CELL 'sum', in the pinned program and in every row, IS THE sha256 OF THE DUMP (.gsa) THAT YtanbfplcldloeaaGreatDoorProg.lean LOADS. Nothing in Lean hashes anything: it is a label: what it is worth is what the hold of that sum in a sandbox is worth. -/
noncomputable def Tryz.pinned : Pinned := { name := "ytanbfplcldloeaagreatdoor", sum := "79c63bcf63c1e484450f2c991e5bf89427deb8d52e1ec29bcbcb7b4e42980104", checked := Tryz.checked }
namespace Rows
def none {H : Type} : Left H := { results := [], args := [] }

/- WHAT THE LISTED PACKAGE-LEVEL VARIABLES READ AS WHEN THE CALL BEGINS. Each datum BY PROGRAM (the guide's laid-datum.mjs) off the statement by which the dump's own 'gosem.cut.vars' lays the variable. In a bare row this is a premise. The card (YtanbfplcldloeaaGreatDoorCards.lean) ties it to the program's text. -/
def laid_errors_errorType {H : Type} : DataW H := .iface "internal/reflectlite.rtype" (.agg [.ptr (.lit (.string [101, 114, 114, 111, 114]))])

/-- 'emenderlaw10.RemapSteps': WHATEVER THE INPUT: true; the input reads as it did. -/
def remapStepsSpec : ChangeSpec := { name := "remapSteps", fn := fun _ => fun
  | [d1, d2, d3] => { results := [.lit (.bool true)], args := [d1, d2, d3] }
  | _ => none }
def remapStepsRow : OpenClaim := { program := "ytanbfplcldloeaagreatdoor", sum := "79c63bcf63c1e484450f2c991e5bf89427deb8d52e1ec29bcbcb7b4e42980104", func := "emender/emenderlaw10.RemapSteps", spec := "remapSteps", inPlace := ["internal/reflectlite.ValueOf", "(internal/reflectlite.Value).Type", "(internal/reflectlite.Value).IsNil", "internal/reflectlite.TypeOf", "(internal/reflectlite.Value).Elem", "(internal/reflectlite.Value).Set"], unfollowed := true, recurses := true, named := ["errors.errorType"], apart := false, laid := [("errors.errorType", laid_errors_errorType)] }
def RemapStepsSaid : Prop := remapStepsRow.holds Tryz.pinned (OpenSpec.ofChange remapStepsSpec)

/-- ITS FALSE NEIGHBOUR: 'it returns false'. Refute it at one input. -/
def remapStepsWrong : ChangeSpec := { name := "remapSteps", fn := fun _ => fun
  | [d1, d2, d3] => { results := [.lit (.bool false)], args := [d1, d2, d3] }
  | _ => none }
def RemapStepsWrongFalsely : Prop := remapStepsRow.holds Tryz.pinned (OpenSpec.ofChange remapStepsWrong)

/-- 'emenderlaw10.RemapRebases': WHATEVER THE INPUT: true; the input reads as it did. -/
def remapRebasesSpec : ChangeSpec := { name := "remapRebases", fn := fun _ => fun
  | [d1, d2, d3] => { results := [.lit (.bool true)], args := [d1, d2, d3] }
  | _ => none }
def remapRebasesRow : OpenClaim := { program := "ytanbfplcldloeaagreatdoor", sum := "79c63bcf63c1e484450f2c991e5bf89427deb8d52e1ec29bcbcb7b4e42980104", func := "emender/emenderlaw10.RemapRebases", spec := "remapRebases", inPlace := ["internal/reflectlite.ValueOf", "(internal/reflectlite.Value).Type", "(internal/reflectlite.Value).IsNil", "internal/reflectlite.TypeOf", "(internal/reflectlite.Value).Elem", "(internal/reflectlite.Value).Set"], unfollowed := true, recurses := true, named := ["errors.errorType"], apart := false, laid := [("errors.errorType", laid_errors_errorType)] }
def RemapRebasesSaid : Prop := remapRebasesRow.holds Tryz.pinned (OpenSpec.ofChange remapRebasesSpec)

/-- ITS FALSE NEIGHBOUR: 'it returns false'. Refute it at one input. -/
def remapRebasesWrong : ChangeSpec := { name := "remapRebases", fn := fun _ => fun
  | [d1, d2, d3] => { results := [.lit (.bool false)], args := [d1, d2, d3] }
  | _ => none }
def RemapRebasesWrongFalsely : Prop := remapRebasesRow.holds Tryz.pinned (OpenSpec.ofChange remapRebasesWrong)

/-- 'emenderlaw10.RemapFolds': WHATEVER THE INPUT: true; the input reads as it did. -/
def remapFoldsSpec : ChangeSpec := { name := "remapFolds", fn := fun _ => fun
  | [d1, d2, d3] => { results := [.lit (.bool true)], args := [d1, d2, d3] }
  | _ => none }
def remapFoldsRow : OpenClaim := { program := "ytanbfplcldloeaagreatdoor", sum := "79c63bcf63c1e484450f2c991e5bf89427deb8d52e1ec29bcbcb7b4e42980104", func := "emender/emenderlaw10.RemapFolds", spec := "remapFolds", inPlace := ["internal/reflectlite.ValueOf", "(internal/reflectlite.Value).Type", "(internal/reflectlite.Value).IsNil", "internal/reflectlite.TypeOf", "(internal/reflectlite.Value).Elem", "(internal/reflectlite.Value).Set"], unfollowed := true, recurses := true, named := ["errors.errorType"], apart := false, laid := [("errors.errorType", laid_errors_errorType)] }
def RemapFoldsSaid : Prop := remapFoldsRow.holds Tryz.pinned (OpenSpec.ofChange remapFoldsSpec)

/-- ITS FALSE NEIGHBOUR: 'it returns false'. Refute it at one input. -/
def remapFoldsWrong : ChangeSpec := { name := "remapFolds", fn := fun _ => fun
  | [d1, d2, d3] => { results := [.lit (.bool false)], args := [d1, d2, d3] }
  | _ => none }
def RemapFoldsWrongFalsely : Prop := remapFoldsRow.holds Tryz.pinned (OpenSpec.ofChange remapFoldsWrong)

/-- 'emenderlaw10.RemapNone': WHATEVER THE INPUT: true; the input reads as it did. -/
def remapNoneSpec : ChangeSpec := { name := "remapNone", fn := fun _ => fun
  | [d1, d2] => { results := [.lit (.bool true)], args := [d1, d2] }
  | _ => none }
def remapNoneRow : OpenClaim := { program := "ytanbfplcldloeaagreatdoor", sum := "79c63bcf63c1e484450f2c991e5bf89427deb8d52e1ec29bcbcb7b4e42980104", func := "emender/emenderlaw10.RemapNone", spec := "remapNone", inPlace := ["internal/reflectlite.ValueOf", "(internal/reflectlite.Value).Type", "(internal/reflectlite.Value).IsNil", "internal/reflectlite.TypeOf", "(internal/reflectlite.Value).Elem", "(internal/reflectlite.Value).Set"], unfollowed := true, recurses := true, named := ["errors.errorType"], apart := false, laid := [("errors.errorType", laid_errors_errorType)] }
def RemapNoneSaid : Prop := remapNoneRow.holds Tryz.pinned (OpenSpec.ofChange remapNoneSpec)

/-- ITS FALSE NEIGHBOUR: 'it returns false'. Refute it at one input. -/
def remapNoneWrong : ChangeSpec := { name := "remapNone", fn := fun _ => fun
  | [d1, d2] => { results := [.lit (.bool false)], args := [d1, d2] }
  | _ => none }
def RemapNoneWrongFalsely : Prop := remapNoneRow.holds Tryz.pinned (OpenSpec.ofChange remapNoneWrong)

/-- 'emenderlaw10.RemapTexts': WHATEVER THE INPUT: true; the input reads as it did. -/
def remapTextsSpec : ChangeSpec := { name := "remapTexts", fn := fun _ => fun
  | [d1, d2, d3] => { results := [.lit (.bool true)], args := [d1, d2, d3] }
  | _ => none }
def remapTextsRow : OpenClaim := { program := "ytanbfplcldloeaagreatdoor", sum := "79c63bcf63c1e484450f2c991e5bf89427deb8d52e1ec29bcbcb7b4e42980104", func := "emender/emenderlaw10.RemapTexts", spec := "remapTexts", inPlace := ["internal/reflectlite.ValueOf", "(internal/reflectlite.Value).Type", "(internal/reflectlite.Value).IsNil", "internal/reflectlite.TypeOf", "(internal/reflectlite.Value).Elem", "(internal/reflectlite.Value).Set"], unfollowed := true, recurses := true, named := ["errors.errorType"], apart := false, laid := [("errors.errorType", laid_errors_errorType)] }
def RemapTextsSaid : Prop := remapTextsRow.holds Tryz.pinned (OpenSpec.ofChange remapTextsSpec)

/-- ITS FALSE NEIGHBOUR: 'it returns false'. Refute it at one input. -/
def remapTextsWrong : ChangeSpec := { name := "remapTexts", fn := fun _ => fun
  | [d1, d2, d3] => { results := [.lit (.bool false)], args := [d1, d2, d3] }
  | _ => none }
def RemapTextsWrongFalsely : Prop := remapTextsRow.holds Tryz.pinned (OpenSpec.ofChange remapTextsWrong)

/-- 'emenderlaw10.RemapApart': WHATEVER THE INPUT: true; the input reads as it did. -/
def remapApartSpec : ChangeSpec := { name := "remapApart", fn := fun _ => fun
  | [d1, d2, d3] => { results := [.lit (.bool true)], args := [d1, d2, d3] }
  | _ => none }
def remapApartRow : OpenClaim := { program := "ytanbfplcldloeaagreatdoor", sum := "79c63bcf63c1e484450f2c991e5bf89427deb8d52e1ec29bcbcb7b4e42980104", func := "emender/emenderlaw10.RemapApart", spec := "remapApart", inPlace := ["internal/reflectlite.ValueOf", "(internal/reflectlite.Value).Type", "(internal/reflectlite.Value).IsNil", "internal/reflectlite.TypeOf", "(internal/reflectlite.Value).Elem", "(internal/reflectlite.Value).Set"], unfollowed := true, recurses := true, named := ["errors.errorType"], apart := false, laid := [("errors.errorType", laid_errors_errorType)] }
def RemapApartSaid : Prop := remapApartRow.holds Tryz.pinned (OpenSpec.ofChange remapApartSpec)

/-- ITS FALSE NEIGHBOUR: 'it returns false'. Refute it at one input. -/
def remapApartWrong : ChangeSpec := { name := "remapApart", fn := fun _ => fun
  | [d1, d2, d3] => { results := [.lit (.bool false)], args := [d1, d2, d3] }
  | _ => none }
def RemapApartWrongFalsely : Prop := remapApartRow.holds Tryz.pinned (OpenSpec.ofChange remapApartWrong)

/- THE SECOND FORM. 'bulk': how many values and letters a reading holds, each counted each time it is reached (what is shared counts as often as it is met; a slice's spare places count too). A statement '..UptoSaid' is the law's where the arguments, and the package variables that the reading takes, are together of bulk at most 1048576: NARROWER than '..Said'. Prove '..Said' where nothing that the law and all that it calls make is longer than what came in: it says more and counts as full. Else prove '..UptoSaid'. A law counts once. -/
mutual
def uptoBulk {H : Type} : DataW H → Nat
  | .lit (.string bytes) => bytes.length + 1
  | .lit _ => 1
  | .nil => 1
  | .ptr d => uptoBulk d + 1
  | .slice elems spare => uptoBulkAll elems + uptoBulkAll spare + 1
  | .agg parts => uptoBulkAll parts + 1
  | .iface _ d => uptoBulk d + 1
  | .map entries => uptoBulkEntries entries + 1
  | .held _ => 1
def uptoBulkAll {H : Type} : List (DataW H) → Nat
  | [] => 0
  | d :: r => uptoBulk d + uptoBulkAll r
def uptoBulkEntries {H : Type} : List (Lit × DataW H) → Nat
  | [] => 0
  | x :: r => uptoBulkEntry x + uptoBulkEntries r
def uptoBulkEntry {H : Type} : Lit × DataW H → Nat
  | (.string bytes, d) => bytes.length + uptoBulk d + 1
  | (_, d) => uptoBulk d + 1
 end
def uptoSmall : (H : Type) → List (DataW H) → Bool := fun _ ds => decide (uptoBulkAll ds ≤ 1048576)
def OpenSpec.upto (s : _root_.Go.ChangeSpec) : _root_.Go.OpenSpec := { _root_.Go.OpenSpec.ofChange s with cond := some uptoSmall }

/-- 'emenderlaw10.RemapSteps', WHERE WHAT IT READS IS OF BULK AT MOST 1048576: true; the input reads as it did. -/
def remapStepsUptoRow : OpenClaim := { program := "ytanbfplcldloeaagreatdoor", sum := "79c63bcf63c1e484450f2c991e5bf89427deb8d52e1ec29bcbcb7b4e42980104", func := "emender/emenderlaw10.RemapSteps", spec := "remapSteps", inPlace := ["internal/reflectlite.ValueOf", "(internal/reflectlite.Value).Type", "(internal/reflectlite.Value).IsNil", "internal/reflectlite.TypeOf", "(internal/reflectlite.Value).Elem", "(internal/reflectlite.Value).Set"], unfollowed := true, recurses := true, named := ["errors.errorType"], apart := false, laid := [("errors.errorType", laid_errors_errorType)], narrowed := true }
def RemapStepsUptoSaid : Prop := remapStepsUptoRow.holds Tryz.pinned (OpenSpec.upto remapStepsSpec)

/-- 'emenderlaw10.RemapRebases', WHERE WHAT IT READS IS OF BULK AT MOST 1048576: true; the input reads as it did. -/
def remapRebasesUptoRow : OpenClaim := { program := "ytanbfplcldloeaagreatdoor", sum := "79c63bcf63c1e484450f2c991e5bf89427deb8d52e1ec29bcbcb7b4e42980104", func := "emender/emenderlaw10.RemapRebases", spec := "remapRebases", inPlace := ["internal/reflectlite.ValueOf", "(internal/reflectlite.Value).Type", "(internal/reflectlite.Value).IsNil", "internal/reflectlite.TypeOf", "(internal/reflectlite.Value).Elem", "(internal/reflectlite.Value).Set"], unfollowed := true, recurses := true, named := ["errors.errorType"], apart := false, laid := [("errors.errorType", laid_errors_errorType)], narrowed := true }
def RemapRebasesUptoSaid : Prop := remapRebasesUptoRow.holds Tryz.pinned (OpenSpec.upto remapRebasesSpec)

/-- 'emenderlaw10.RemapFolds', WHERE WHAT IT READS IS OF BULK AT MOST 1048576: true; the input reads as it did. -/
def remapFoldsUptoRow : OpenClaim := { program := "ytanbfplcldloeaagreatdoor", sum := "79c63bcf63c1e484450f2c991e5bf89427deb8d52e1ec29bcbcb7b4e42980104", func := "emender/emenderlaw10.RemapFolds", spec := "remapFolds", inPlace := ["internal/reflectlite.ValueOf", "(internal/reflectlite.Value).Type", "(internal/reflectlite.Value).IsNil", "internal/reflectlite.TypeOf", "(internal/reflectlite.Value).Elem", "(internal/reflectlite.Value).Set"], unfollowed := true, recurses := true, named := ["errors.errorType"], apart := false, laid := [("errors.errorType", laid_errors_errorType)], narrowed := true }
def RemapFoldsUptoSaid : Prop := remapFoldsUptoRow.holds Tryz.pinned (OpenSpec.upto remapFoldsSpec)

/-- 'emenderlaw10.RemapNone', WHERE WHAT IT READS IS OF BULK AT MOST 1048576: true; the input reads as it did. -/
def remapNoneUptoRow : OpenClaim := { program := "ytanbfplcldloeaagreatdoor", sum := "79c63bcf63c1e484450f2c991e5bf89427deb8d52e1ec29bcbcb7b4e42980104", func := "emender/emenderlaw10.RemapNone", spec := "remapNone", inPlace := ["internal/reflectlite.ValueOf", "(internal/reflectlite.Value).Type", "(internal/reflectlite.Value).IsNil", "internal/reflectlite.TypeOf", "(internal/reflectlite.Value).Elem", "(internal/reflectlite.Value).Set"], unfollowed := true, recurses := true, named := ["errors.errorType"], apart := false, laid := [("errors.errorType", laid_errors_errorType)], narrowed := true }
def RemapNoneUptoSaid : Prop := remapNoneUptoRow.holds Tryz.pinned (OpenSpec.upto remapNoneSpec)

/-- 'emenderlaw10.RemapTexts', WHERE WHAT IT READS IS OF BULK AT MOST 1048576: true; the input reads as it did. -/
def remapTextsUptoRow : OpenClaim := { program := "ytanbfplcldloeaagreatdoor", sum := "79c63bcf63c1e484450f2c991e5bf89427deb8d52e1ec29bcbcb7b4e42980104", func := "emender/emenderlaw10.RemapTexts", spec := "remapTexts", inPlace := ["internal/reflectlite.ValueOf", "(internal/reflectlite.Value).Type", "(internal/reflectlite.Value).IsNil", "internal/reflectlite.TypeOf", "(internal/reflectlite.Value).Elem", "(internal/reflectlite.Value).Set"], unfollowed := true, recurses := true, named := ["errors.errorType"], apart := false, laid := [("errors.errorType", laid_errors_errorType)], narrowed := true }
def RemapTextsUptoSaid : Prop := remapTextsUptoRow.holds Tryz.pinned (OpenSpec.upto remapTextsSpec)

/-- 'emenderlaw10.RemapApart', WHERE WHAT IT READS IS OF BULK AT MOST 1048576: true; the input reads as it did. -/
def remapApartUptoRow : OpenClaim := { program := "ytanbfplcldloeaagreatdoor", sum := "79c63bcf63c1e484450f2c991e5bf89427deb8d52e1ec29bcbcb7b4e42980104", func := "emender/emenderlaw10.RemapApart", spec := "remapApart", inPlace := ["internal/reflectlite.ValueOf", "(internal/reflectlite.Value).Type", "(internal/reflectlite.Value).IsNil", "internal/reflectlite.TypeOf", "(internal/reflectlite.Value).Elem", "(internal/reflectlite.Value).Set"], unfollowed := true, recurses := true, named := ["errors.errorType"], apart := false, laid := [("errors.errorType", laid_errors_errorType)], narrowed := true }
def RemapApartUptoSaid : Prop := remapApartUptoRow.holds Tryz.pinned (OpenSpec.upto remapApartSpec)

end Rows
end Go.Proofs.YtanbfplcldloeaaGreatDoor
