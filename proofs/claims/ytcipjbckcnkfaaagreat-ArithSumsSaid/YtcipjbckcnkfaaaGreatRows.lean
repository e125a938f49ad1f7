/-
  No cell of these rows narrows 'for every input' (looked for: loops, veiled, ifaces, maps, wideKeys, modest, calm, conditions, laid).
  DERIVED. THE GIVEN ROWS OF THIS SEAT. 4 by the template 'for every input the law returns true; each argument reads behind the call as it read before'; 0 by the template 'total and deterministic' (their statements: YtcipjbckcnkfaaaGreatTotals.lean).
  GIVEN WITH THE SEED: the statements are not yours to turn. If you find one false, say at which input.
  Laid BY PROGRAM, IN A SANDBOX (cutbox-rows.mjs): the forced cells as the released guide's own fill.sh prints them over the translation c76cdaf5d90a5d57… (all of the seat's roots in one cut). By AI agents, Wed Nov 11 2026. No macro, syntax, notation, axiom, sorry.
-/
import Derived.Test.YtcipjbckcnkfaaaGreatChecked
import GoSem.Claim
import GoSem.ClaimJoined
import GoSem.ClaimMapViews
import Derived.JoinedTies
import Derived.KernelRfl
namespace Go.Proofs.YtcipjbckcnkfaaaGreat
/- THE CELL 'sum', in the pinned program and in every row, IS THE sha256 OF THE DUMP (.gsa) THAT YtcipjbckcnkfaaaGreatProg.lean LOADS. Nothing in Lean hashes anything: it is a label: what it is worth is what the hold of that sum in a sandbox is worth. -/
noncomputable def Tryz.pinned : Pinned := { name := "ytcipjbckcnkfaaagreat", sum := "c76cdaf5d90a5d5735cc38314d3378486eafcb8b6ac394f153c91366a6007cba", checked := Tryz.checked }
namespace Rows
def none {H : Type} : Left H := { results := [], args := [] }

/-- 'obscuralaw16.ArithTensors': WHATEVER THE INPUT: true; the input reads as it did. -/
def arithTensorsSpec : ChangeSpec := { name := "arithTensors", fn := fun _ => fun
  | [d1, d2, d3] => { results := [.lit (.bool true)], args := [d1, d2, d3] }
  | _ => none }
def arithTensorsRow : OpenClaim := { program := "ytcipjbckcnkfaaagreat", sum := "c76cdaf5d90a5d5735cc38314d3378486eafcb8b6ac394f153c91366a6007cba", func := "obscura/obscuralaw16.ArithTensors", spec := "arithTensors", unfollowed := true, recurses := true, apart := false }
def ArithTensorsSaid : Prop := arithTensorsRow.holds Tryz.pinned (OpenSpec.ofChange arithTensorsSpec)

/-- ITS FALSE NEIGHBOUR: 'it returns false'. Refute it at one input. -/
def arithTensorsWrong : ChangeSpec := { name := "arithTensors", fn := fun _ => fun
  | [d1, d2, d3] => { results := [.lit (.bool false)], args := [d1, d2, d3] }
  | _ => none }
def ArithTensorsWrongFalsely : Prop := arithTensorsRow.holds Tryz.pinned (OpenSpec.ofChange arithTensorsWrong)

/-- 'obscuralaw16.ArithSums': WHATEVER THE INPUT: true; the input reads as it did. -/
def arithSumsSpec : ChangeSpec := { name := "arithSums", fn := fun _ => fun
  | [d1, d2, d3] => { results := [.lit (.bool true)], args := [d1, d2, d3] }
  | _ => none }
def arithSumsRow : OpenClaim := { program := "ytcipjbckcnkfaaagreat", sum := "c76cdaf5d90a5d5735cc38314d3378486eafcb8b6ac394f153c91366a6007cba", func := "obscura/obscuralaw16.ArithSums", spec := "arithSums", unfollowed := true, recurses := true, apart := false }
def ArithSumsSaid : Prop := arithSumsRow.holds Tryz.pinned (OpenSpec.ofChange arithSumsSpec)

/-- ITS FALSE NEIGHBOUR: 'it returns false'. Refute it at one input. -/
def arithSumsWrong : ChangeSpec := { name := "arithSums", fn := fun _ => fun
  | [d1, d2, d3] => { results := [.lit (.bool false)], args := [d1, d2, d3] }
  | _ => none }
def ArithSumsWrongFalsely : Prop := arithSumsRow.holds Tryz.pinned (OpenSpec.ofChange arithSumsWrong)

/-- 'obscuralaw16.ArithScales': WHATEVER THE INPUT: true; the input reads as it did. -/
def arithScalesSpec : ChangeSpec := { name := "arithScales", fn := fun _ => fun
  | [d1, d2, d3] => { results := [.lit (.bool true)], args := [d1, d2, d3] }
  | _ => none }
def arithScalesRow : OpenClaim := { program := "ytcipjbckcnkfaaagreat", sum := "c76cdaf5d90a5d5735cc38314d3378486eafcb8b6ac394f153c91366a6007cba", func := "obscura/obscuralaw16.ArithScales", spec := "arithScales", unfollowed := true, recurses := true, apart := false }
def ArithScalesSaid : Prop := arithScalesRow.holds Tryz.pinned (OpenSpec.ofChange arithScalesSpec)

/-- ITS FALSE NEIGHBOUR: 'it returns false'. Refute it at one input. -/
def arithScalesWrong : ChangeSpec := { name := "arithScales", fn := fun _ => fun
  | [d1, d2, d3] => { results := [.lit (.bool false)], args := [d1, d2, d3] }
  | _ => none }
def ArithScalesWrongFalsely : Prop := arithScalesRow.holds Tryz.pinned (OpenSpec.ofChange arithScalesWrong)

/-- 'obscuralaw16.ArithLaws': WHATEVER THE INPUT: true; the input reads as it did. -/
def arithLawsSpec : ChangeSpec := { name := "arithLaws", fn := fun _ => fun
  | [d1, d2, d3] => { results := [.lit (.bool true)], args := [d1, d2, d3] }
  | _ => none }
def arithLawsRow : OpenClaim := { program := "ytcipjbckcnkfaaagreat", sum := "c76cdaf5d90a5d5735cc38314d3378486eafcb8b6ac394f153c91366a6007cba", func := "obscura/obscuralaw16.ArithLaws", spec := "arithLaws", unfollowed := true, recurses := true, apart := false }
def ArithLawsSaid : Prop := arithLawsRow.holds Tryz.pinned (OpenSpec.ofChange arithLawsSpec)

/-- ITS FALSE NEIGHBOUR: 'it returns false'. Refute it at one input. -/
def arithLawsWrong : ChangeSpec := { name := "arithLaws", fn := fun _ => fun
  | [d1, d2, d3] => { results := [.lit (.bool false)], args := [d1, d2, d3] }
  | _ => none }
def ArithLawsWrongFalsely : Prop := arithLawsRow.holds Tryz.pinned (OpenSpec.ofChange arithLawsWrong)

/- THE SECOND FORM. 'bulk': how many values and letters a reading holds, each counted each time it is reached (what is shared counts as often as it is met; a slice's spare places count too). A statement '..UptoSaid' is the law's where the arguments, and the package variables that the reading takes, are together of bulk at most 1048576: NARROWER than '..Said'. Prove '..Said' where nothing that the law and all that it calls make is longer than what came in: it says more and counts as full. Else prove '..UptoSaid'. A law counts once. -/
mutual
def uptoBulk {H : Type} : DataW H → Nat
  | .lit (.string bytes) => bytes.length + 1
  | .lit _ => 1
  | .nil => 1
  | .ptr d => uptoBulk d + 1
  | .slice elems spare => uptoBulkAll elems + uptoBulkAll spare + 1
  | .agg parts => uptoBulkAll parts + 1
  | .iface _ d => uptoBulk d + 1
  | .map entries => uptoBulkEntries entries + 1
  | .held _ => 1
def uptoBulkAll {H : Type} : List (DataW H) → Nat
  | [] => 0
  | d :: r => uptoBulk d + uptoBulkAll r
def uptoBulkEntries {H : Type} : List (Lit × DataW H) → Nat
  | [] => 0
  | x :: r => uptoBulkEntry x + uptoBulkEntries r
def uptoBulkEntry {H : Type} : Lit × DataW H → Nat
  | (.string bytes, d) => bytes.length + uptoBulk d + 1
  | (_, d) => uptoBulk d + 1
 end
def uptoSmall : (H : Type) → List (DataW H) → Bool := fun _ ds => decide (uptoBulkAll ds ≤ 1048576)
def OpenSpec.upto (s : _root_.Go.ChangeSpec) : _root_.Go.OpenSpec := { _root_.Go.OpenSpec.ofChange s with cond := some uptoSmall }

/-- 'obscuralaw16.ArithTensors', WHERE WHAT IT READS IS OF BULK AT MOST 1048576: true; the input reads as it did. -/
def arithTensorsUptoRow : OpenClaim := { program := "ytcipjbckcnkfaaagreat", sum := "c76cdaf5d90a5d5735cc38314d3378486eafcb8b6ac394f153c91366a6007cba", func := "obscura/obscuralaw16.ArithTensors", spec := "arithTensors", unfollowed := true, recurses := true, apart := false, narrowed := true }
def ArithTensorsUptoSaid : Prop := arithTensorsUptoRow.holds Tryz.pinned (OpenSpec.upto arithTensorsSpec)

/-- 'obscuralaw16.ArithSums', WHERE WHAT IT READS IS OF BULK AT MOST 1048576: true; the input reads as it did. -/
def arithSumsUptoRow : OpenClaim := { program := "ytcipjbckcnkfaaagreat", sum := "c76cdaf5d90a5d5735cc38314d3378486eafcb8b6ac394f153c91366a6007cba", func := "obscura/obscuralaw16.ArithSums", spec := "arithSums", unfollowed := true, recurses := true, apart := false, narrowed := true }
def ArithSumsUptoSaid : Prop := arithSumsUptoRow.holds Tryz.pinned (OpenSpec.upto arithSumsSpec)

/-- 'obscuralaw16.ArithScales', WHERE WHAT IT READS IS OF BULK AT MOST 1048576: true; the input reads as it did. -/
def arithScalesUptoRow : OpenClaim := { program := "ytcipjbckcnkfaaagreat", sum := "c76cdaf5d90a5d5735cc38314d3378486eafcb8b6ac394f153c91366a6007cba", func := "obscura/obscuralaw16.ArithScales", spec := "arithScales", unfollowed := true, recurses := true, apart := false, narrowed := true }
def ArithScalesUptoSaid : Prop := arithScalesUptoRow.holds Tryz.pinned (OpenSpec.upto arithScalesSpec)

/-- 'obscuralaw16.ArithLaws', WHERE WHAT IT READS IS OF BULK AT MOST 1048576: true; the input reads as it did. -/
def arithLawsUptoRow : OpenClaim := { program := "ytcipjbckcnkfaaagreat", sum := "c76cdaf5d90a5d5735cc38314d3378486eafcb8b6ac394f153c91366a6007cba", func := "obscura/obscuralaw16.ArithLaws", spec := "arithLaws", unfollowed := true, recurses := true, apart := false, narrowed := true }
def ArithLawsUptoSaid : Prop := arithLawsUptoRow.holds Tryz.pinned (OpenSpec.upto arithLawsSpec)

end Rows
end Go.Proofs.YtcipjbckcnkfaaaGreat
