/-
  No cell of these rows narrows 'for every input' (looked for: loops, veiled, ifaces, maps, wideKeys, modest, calm, conditions, laid).
  DERIVED. THE GIVEN ROWS OF THIS SEAT. 5 by the template 'for every input the law returns true; each argument reads behind the call as it read before'; 0 by the template 'total and deterministic' (their statements: YtefoddjclngckaaGreatTotals.lean).
  GIVEN WITH THE SEED: the statements are not yours to turn. If you find one false, say at which input.
  Laid BY PROGRAM, IN A SANDBOX (cutbox-rows.mjs): the forced cells as the released guide's own fill.sh prints them over the translation 2b7408545118343b… (all of the seat's roots in one cut). By AI agents, Wed Nov 11 2026. No macro, syntax, notation, axiom, sorry.
-/
import Derived.Test.YtefoddjclngckaaGreatChecked
import GoSem.Claim
import GoSem.ClaimJoined
import GoSem.ClaimMapViews
import Derived.JoinedTies
import Derived.KernelRfl
namespace Go.Proofs.YtefoddjclngckaaGreat
/- THE CELL 'sum', in the pinned program and in every row, IS THE sha256 OF THE DUMP (.gsa) THAT YtefoddjclngckaaGreatProg.lean LOADS. Nothing in Lean hashes anything: it is a label: what it is worth is what the hold of that sum in a sandbox is worth. -/
noncomputable def Tryz.pinned : Pinned := { name := "ytefoddjclngckaagreat", sum := "2b7408545118343ba7ae472ebce18f25b727041b79aea0d403271bc1137dd35f", checked := Tryz.checked }
namespace Rows
def none {H : Type} : Left H := { results := [], args := [] }

/-- 'obscuralaw18.SwitchingForms': WHATEVER THE INPUT: true; the input reads as it did. -/
def switchingFormsSpec : ChangeSpec := { name := "switchingForms", fn := fun _ => fun
  | [d1, d2, d3] => { results := [.lit (.bool true)], args := [d1, d2, d3] }
  | _ => none }
def switchingFormsRow : OpenClaim := { program := "ytefoddjclngckaagreat", sum := "2b7408545118343ba7ae472ebce18f25b727041b79aea0d403271bc1137dd35f", func := "obscura/obscuralaw18.SwitchingForms", spec := "switchingForms", unfollowed := true, recurses := true, apart := false }
def SwitchingFormsSaid : Prop := switchingFormsRow.holds Tryz.pinned (OpenSpec.ofChange switchingFormsSpec)

/-- ITS FALSE NEIGHBOUR: 'it returns false'. Refute it at one input. -/
def switchingFormsWrong : ChangeSpec := { name := "switchingForms", fn := fun _ => fun
  | [d1, d2, d3] => { results := [.lit (.bool false)], args := [d1, d2, d3] }
  | _ => none }
def SwitchingFormsWrongFalsely : Prop := switchingFormsRow.holds Tryz.pinned (OpenSpec.ofChange switchingFormsWrong)

/-- 'obscuralaw20.RescaleDowns': WHATEVER THE INPUT: true; the input reads as it did. -/
def rescaleDownsSpec : ChangeSpec := { name := "rescaleDowns", fn := fun _ => fun
  | [d1, d2, d3] => { results := [.lit (.bool true)], args := [d1, d2, d3] }
  | _ => none }
def rescaleDownsRow : OpenClaim := { program := "ytefoddjclngckaagreat", sum := "2b7408545118343ba7ae472ebce18f25b727041b79aea0d403271bc1137dd35f", func := "obscura/obscuralaw20.RescaleDowns", spec := "rescaleDowns", unfollowed := true, recurses := true, apart := false }
def RescaleDownsSaid : Prop := rescaleDownsRow.holds Tryz.pinned (OpenSpec.ofChange rescaleDownsSpec)

/-- ITS FALSE NEIGHBOUR: 'it returns false'. Refute it at one input. -/
def rescaleDownsWrong : ChangeSpec := { name := "rescaleDowns", fn := fun _ => fun
  | [d1, d2, d3] => { results := [.lit (.bool false)], args := [d1, d2, d3] }
  | _ => none }
def RescaleDownsWrongFalsely : Prop := rescaleDownsRow.holds Tryz.pinned (OpenSpec.ofChange rescaleDownsWrong)

/-- 'obscuralaw16.ArithScales': WHATEVER THE INPUT: true; the input reads as it did. -/
def arithScalesSpec : ChangeSpec := { name := "arithScales", fn := fun _ => fun
  | [d1, d2, d3] => { results := [.lit (.bool true)], args := [d1, d2, d3] }
  | _ => none }
def arithScalesRow : OpenClaim := { program := "ytefoddjclngckaagreat", sum := "2b7408545118343ba7ae472ebce18f25b727041b79aea0d403271bc1137dd35f", func := "obscura/obscuralaw16.ArithScales", spec := "arithScales", unfollowed := true, recurses := true, apart := false }
def ArithScalesSaid : Prop := arithScalesRow.holds Tryz.pinned (OpenSpec.ofChange arithScalesSpec)

/-- ITS FALSE NEIGHBOUR: 'it returns false'. Refute it at one input. -/
def arithScalesWrong : ChangeSpec := { name := "arithScales", fn := fun _ => fun
  | [d1, d2, d3] => { results := [.lit (.bool false)], args := [d1, d2, d3] }
  | _ => none }
def ArithScalesWrongFalsely : Prop := arithScalesRow.holds Tryz.pinned (OpenSpec.ofChange arithScalesWrong)

/-- 'obscuralaw20.RescaleExponents': WHATEVER THE INPUT: true; the input reads as it did. -/
def rescaleExponentsSpec : ChangeSpec := { name := "rescaleExponents", fn := fun _ => fun
  | [d1, d2, d3] => { results := [.lit (.bool true)], args := [d1, d2, d3] }
  | _ => none }
def rescaleExponentsRow : OpenClaim := { program := "ytefoddjclngckaagreat", sum := "2b7408545118343ba7ae472ebce18f25b727041b79aea0d403271bc1137dd35f", func := "obscura/obscuralaw20.RescaleExponents", spec := "rescaleExponents", unfollowed := true, recurses := true, apart := false }
def RescaleExponentsSaid : Prop := rescaleExponentsRow.holds Tryz.pinned (OpenSpec.ofChange rescaleExponentsSpec)

/-- ITS FALSE NEIGHBOUR: 'it returns false'. Refute it at one input. -/
def rescaleExponentsWrong : ChangeSpec := { name := "rescaleExponents", fn := fun _ => fun
  | [d1, d2, d3] => { results := [.lit (.bool false)], args := [d1, d2, d3] }
  | _ => none }
def RescaleExponentsWrongFalsely : Prop := rescaleExponentsRow.holds Tryz.pinned (OpenSpec.ofChange rescaleExponentsWrong)

/-- 'obscuralaw16.ArithLaws': WHATEVER THE INPUT: true; the input reads as it did. -/
def arithLawsSpec : ChangeSpec := { name := "arithLaws", fn := fun _ => fun
  | [d1, d2, d3] => { results := [.lit (.bool true)], args := [d1, d2, d3] }
  | _ => none }
def arithLawsRow : OpenClaim := { program := "ytefoddjclngckaagreat", sum := "2b7408545118343ba7ae472ebce18f25b727041b79aea0d403271bc1137dd35f", func := "obscura/obscuralaw16.ArithLaws", spec := "arithLaws", unfollowed := true, recurses := true, apart := false }
def ArithLawsSaid : Prop := arithLawsRow.holds Tryz.pinned (OpenSpec.ofChange arithLawsSpec)

/-- ITS FALSE NEIGHBOUR: 'it returns false'. Refute it at one input. -/
def arithLawsWrong : ChangeSpec := { name := "arithLaws", fn := fun _ => fun
  | [d1, d2, d3] => { results := [.lit (.bool false)], args := [d1, d2, d3] }
  | _ => none }
def ArithLawsWrongFalsely : Prop := arithLawsRow.holds Tryz.pinned (OpenSpec.ofChange arithLawsWrong)

/- THE SECOND FORM. 'bulk': how many values and letters a reading holds, each counted each time it is reached (what is shared counts as often as it is met; a slice's spare places count too). A statement '..UptoSaid' is the law's where the arguments, and the package variables that the reading takes, are together of bulk at most 1048576: NARROWER than '..Said'. Prove '..Said' where nothing that the law and all that it calls make is longer than what came in: it says more and counts as full. Else prove '..UptoSaid'. A law counts once. -/
mutual
def uptoBulk {H : Type} : DataW H → Nat
  | .lit (.string bytes) => bytes.length + 1
  | .lit _ => 1
  | .nil => 1
  | .ptr d => uptoBulk d + 1
  | .slice elems spare => uptoBulkAll elems + uptoBulkAll spare + 1
  | .agg parts => uptoBulkAll parts + 1
  | .iface _ d => uptoBulk d + 1
  | .map entries => uptoBulkEntries entries + 1
  | .held _ => 1
def uptoBulkAll {H : Type} : List (DataW H) → Nat
  | [] => 0
  | d :: r => uptoBulk d + uptoBulkAll r
def uptoBulkEntries {H : Type} : List (Lit × DataW H) → Nat
  | [] => 0
  | x :: r => uptoBulkEntry x + uptoBulkEntries r
def uptoBulkEntry {H : Type} : Lit × DataW H → Nat
  | (.string bytes, d) => bytes.length + uptoBulk d + 1
  | (_, d) => uptoBulk d + 1
 end
def uptoSmall : (H : Type) → List (DataW H) → Bool := fun _ ds => decide (uptoBulkAll ds ≤ 1048576)
def OpenSpec.upto (s : _root_.Go.ChangeSpec) : _root_.Go.OpenSpec := { _root_.Go.OpenSpec.ofChange s with cond := some uptoSmall }

/-- 'obscuralaw18.SwitchingForms', WHERE WHAT IT READS IS OF BULK AT MOST 1048576: true; the input reads as it did. -/
def switchingFormsUptoRow : OpenClaim := { program := "ytefoddjclngckaagreat", sum := "2b7408545118343ba7ae472ebce18f25b727041b79aea0d403271bc1137dd35f", func := "obscura/obscuralaw18.SwitchingForms", spec := "switchingForms", unfollowed := true, recurses := true, apart := false, narrowed := true }
def SwitchingFormsUptoSaid : Prop := switchingFormsUptoRow.holds Tryz.pinned (OpenSpec.upto switchingFormsSpec)

/-- 'obscuralaw20.RescaleDowns', WHERE WHAT IT READS IS OF BULK AT MOST 1048576: true; the input reads as it did. -/
def rescaleDownsUptoRow : OpenClaim := { program := "ytefoddjclngckaagreat", sum := "2b7408545118343ba7ae472ebce18f25b727041b79aea0d403271bc1137dd35f", func := "obscura/obscuralaw20.RescaleDowns", spec := "rescaleDowns", unfollowed := true, recurses := true, apart := false, narrowed := true }
def RescaleDownsUptoSaid : Prop := rescaleDownsUptoRow.holds Tryz.pinned (OpenSpec.upto rescaleDownsSpec)

/-- 'obscuralaw16.ArithScales', WHERE WHAT IT READS IS OF BULK AT MOST 1048576: true; the input reads as it did. -/
def arithScalesUptoRow : OpenClaim := { program := "ytefoddjclngckaagreat", sum := "2b7408545118343ba7ae472ebce18f25b727041b79aea0d403271bc1137dd35f", func := "obscura/obscuralaw16.ArithScales", spec := "arithScales", unfollowed := true, recurses := true, apart := false, narrowed := true }
def ArithScalesUptoSaid : Prop := arithScalesUptoRow.holds Tryz.pinned (OpenSpec.upto arithScalesSpec)

/-- 'obscuralaw20.RescaleExponents', WHERE WHAT IT READS IS OF BULK AT MOST 1048576: true; the input reads as it did. -/
def rescaleExponentsUptoRow : OpenClaim := { program := "ytefoddjclngckaagreat", sum := "2b7408545118343ba7ae472ebce18f25b727041b79aea0d403271bc1137dd35f", func := "obscura/obscuralaw20.RescaleExponents", spec := "rescaleExponents", unfollowed := true, recurses := true, apart := false, narrowed := true }
def RescaleExponentsUptoSaid : Prop := rescaleExponentsUptoRow.holds Tryz.pinned (OpenSpec.upto rescaleExponentsSpec)

/-- 'obscuralaw16.ArithLaws', WHERE WHAT IT READS IS OF BULK AT MOST 1048576: true; the input reads as it did. -/
def arithLawsUptoRow : OpenClaim := { program := "ytefoddjclngckaagreat", sum := "2b7408545118343ba7ae472ebce18f25b727041b79aea0d403271bc1137dd35f", func := "obscura/obscuralaw16.ArithLaws", spec := "arithLaws", unfollowed := true, recurses := true, apart := false, narrowed := true }
def ArithLawsUptoSaid : Prop := arithLawsUptoRow.holds Tryz.pinned (OpenSpec.upto arithLawsSpec)

end Rows
end Go.Proofs.YtefoddjclngckaaGreat
