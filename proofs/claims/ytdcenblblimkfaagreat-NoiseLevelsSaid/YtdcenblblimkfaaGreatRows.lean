/-
  No cell of these rows narrows 'for every input' (looked for: loops, veiled, ifaces, maps, wideKeys, modest, calm, conditions, laid).
  DERIVED. THE GIVEN ROWS OF THIS SEAT. 8 by the template 'for every input the law returns true; each argument reads behind the call as it read before'; 0 by the template 'total and deterministic' (their statements: YtdcenblblimkfaaGreatTotals.lean).
  GIVEN WITH THE SEED: the statements are not yours to turn. If you find one false, say at which input.
  Laid BY PROGRAM, IN A SANDBOX (cutbox-rows.mjs): the forced cells as the released guide's own fill.sh prints them over the translation ee187acc98faed70… (all of the seat's roots in one cut). By AI agents, Wed Nov 11 2026. No macro, syntax, notation, axiom, sorry.
-/
import Derived.Test.YtdcenblblimkfaaGreatChecked
import GoSem.Claim
import GoSem.ClaimJoined
import GoSem.ClaimMapViews
import Derived.JoinedTies
import Derived.KernelRfl
namespace Go.Proofs.YtdcenblblimkfaaGreat
/- THE CELL 'sum', in the pinned program and in every row, IS THE sha256 OF THE DUMP (.gsa) THAT YtdcenblblimkfaaGreatProg.lean LOADS. Nothing in Lean hashes anything: it is a label: what it is worth is what the hold of that sum in a sandbox is worth. -/
noncomputable def Tryz.pinned : Pinned := { name := "ytdcenblblimkfaagreat", sum := "ee187acc98faed70e510847e2daa4d775140fafd7d46e0236429acc0944e9aee", checked := Tryz.checked }
namespace Rows
def none {H : Type} : Left H := { results := [], args := [] }

/-- 'obscuralaw16.ArithScales': WHATEVER THE INPUT: true; the input reads as it did. -/
def arithScalesSpec : ChangeSpec := { name := "arithScales", fn := fun _ => fun
  | [d1, d2, d3] => { results := [.lit (.bool true)], args := [d1, d2, d3] }
  | _ => none }
def arithScalesRow : OpenClaim := { program := "ytdcenblblimkfaagreat", sum := "ee187acc98faed70e510847e2daa4d775140fafd7d46e0236429acc0944e9aee", func := "obscura/obscuralaw16.ArithScales", spec := "arithScales", unfollowed := true, recurses := true, apart := false }
def ArithScalesSaid : Prop := arithScalesRow.holds Tryz.pinned (OpenSpec.ofChange arithScalesSpec)

/-- ITS FALSE NEIGHBOUR: 'it returns false'. Refute it at one input. -/
def arithScalesWrong : ChangeSpec := { name := "arithScales", fn := fun _ => fun
  | [d1, d2, d3] => { results := [.lit (.bool false)], args := [d1, d2, d3] }
  | _ => none }
def ArithScalesWrongFalsely : Prop := arithScalesRow.holds Tryz.pinned (OpenSpec.ofChange arithScalesWrong)

/-- 'obscuralaw15.NoiseTo': WHATEVER THE INPUT: true; the input reads as it did. -/
def noiseToSpec : ChangeSpec := { name := "noiseTo", fn := fun _ => fun
  | [d1, d2, d3] => { results := [.lit (.bool true)], args := [d1, d2, d3] }
  | _ => none }
def noiseToRow : OpenClaim := { program := "ytdcenblblimkfaagreat", sum := "ee187acc98faed70e510847e2daa4d775140fafd7d46e0236429acc0944e9aee", func := "obscura/obscuralaw15.NoiseTo", spec := "noiseTo", unfollowed := true, recurses := true, apart := false }
def NoiseToSaid : Prop := noiseToRow.holds Tryz.pinned (OpenSpec.ofChange noiseToSpec)

/-- ITS FALSE NEIGHBOUR: 'it returns false'. Refute it at one input. -/
def noiseToWrong : ChangeSpec := { name := "noiseTo", fn := fun _ => fun
  | [d1, d2, d3] => { results := [.lit (.bool false)], args := [d1, d2, d3] }
  | _ => none }
def NoiseToWrongFalsely : Prop := noiseToRow.holds Tryz.pinned (OpenSpec.ofChange noiseToWrong)

/-- 'obscuralaw15.NoiseFresh': WHATEVER THE INPUT: true; the input reads as it did. -/
def noiseFreshSpec : ChangeSpec := { name := "noiseFresh", fn := fun _ => fun
  | [d1, d2, d3] => { results := [.lit (.bool true)], args := [d1, d2, d3] }
  | _ => none }
def noiseFreshRow : OpenClaim := { program := "ytdcenblblimkfaagreat", sum := "ee187acc98faed70e510847e2daa4d775140fafd7d46e0236429acc0944e9aee", func := "obscura/obscuralaw15.NoiseFresh", spec := "noiseFresh", unfollowed := true, recurses := true, apart := false }
def NoiseFreshSaid : Prop := noiseFreshRow.holds Tryz.pinned (OpenSpec.ofChange noiseFreshSpec)

/-- ITS FALSE NEIGHBOUR: 'it returns false'. Refute it at one input. -/
def noiseFreshWrong : ChangeSpec := { name := "noiseFresh", fn := fun _ => fun
  | [d1, d2, d3] => { results := [.lit (.bool false)], args := [d1, d2, d3] }
  | _ => none }
def NoiseFreshWrongFalsely : Prop := noiseFreshRow.holds Tryz.pinned (OpenSpec.ofChange noiseFreshWrong)

/-- 'obscuralaw15.NoiseFloors': WHATEVER THE INPUT: true; the input reads as it did. -/
def noiseFloorsSpec : ChangeSpec := { name := "noiseFloors", fn := fun _ => fun
  | [d1, d2, d3] => { results := [.lit (.bool true)], args := [d1, d2, d3] }
  | _ => none }
def noiseFloorsRow : OpenClaim := { program := "ytdcenblblimkfaagreat", sum := "ee187acc98faed70e510847e2daa4d775140fafd7d46e0236429acc0944e9aee", func := "obscura/obscuralaw15.NoiseFloors", spec := "noiseFloors", unfollowed := true, recurses := true, apart := false }
def NoiseFloorsSaid : Prop := noiseFloorsRow.holds Tryz.pinned (OpenSpec.ofChange noiseFloorsSpec)

/-- ITS FALSE NEIGHBOUR: 'it returns false'. Refute it at one input. -/
def noiseFloorsWrong : ChangeSpec := { name := "noiseFloors", fn := fun _ => fun
  | [d1, d2, d3] => { results := [.lit (.bool false)], args := [d1, d2, d3] }
  | _ => none }
def NoiseFloorsWrongFalsely : Prop := noiseFloorsRow.holds Tryz.pinned (OpenSpec.ofChange noiseFloorsWrong)

/-- 'obscuralaw15.NoiseLevels': WHATEVER THE INPUT: true; the input reads as it did. -/
def noiseLevelsSpec : ChangeSpec := { name := "noiseLevels", fn := fun _ => fun
  | [d1, d2, d3] => { results := [.lit (.bool true)], args := [d1, d2, d3] }
  | _ => none }
def noiseLevelsRow : OpenClaim := { program := "ytdcenblblimkfaagreat", sum := "ee187acc98faed70e510847e2daa4d775140fafd7d46e0236429acc0944e9aee", func := "obscura/obscuralaw15.NoiseLevels", spec := "noiseLevels", unfollowed := true, recurses := true, apart := false }
def NoiseLevelsSaid : Prop := noiseLevelsRow.holds Tryz.pinned (OpenSpec.ofChange noiseLevelsSpec)

/-- ITS FALSE NEIGHBOUR: 'it returns false'. Refute it at one input. -/
def noiseLevelsWrong : ChangeSpec := { name := "noiseLevels", fn := fun _ => fun
  | [d1, d2, d3] => { results := [.lit (.bool false)], args := [d1, d2, d3] }
  | _ => none }
def NoiseLevelsWrongFalsely : Prop := noiseLevelsRow.holds Tryz.pinned (OpenSpec.ofChange noiseLevelsWrong)

/-- 'obscuralaw15.NoiseGrows': WHATEVER THE INPUT: true; the input reads as it did. -/
def noiseGrowsSpec : ChangeSpec := { name := "noiseGrows", fn := fun _ => fun
  | [d1, d2, d3] => { results := [.lit (.bool true)], args := [d1, d2, d3] }
  | _ => none }
def noiseGrowsRow : OpenClaim := { program := "ytdcenblblimkfaagreat", sum := "ee187acc98faed70e510847e2daa4d775140fafd7d46e0236429acc0944e9aee", func := "obscura/obscuralaw15.NoiseGrows", spec := "noiseGrows", unfollowed := true, recurses := true, apart := false }
def NoiseGrowsSaid : Prop := noiseGrowsRow.holds Tryz.pinned (OpenSpec.ofChange noiseGrowsSpec)

/-- ITS FALSE NEIGHBOUR: 'it returns false'. Refute it at one input. -/
def noiseGrowsWrong : ChangeSpec := { name := "noiseGrows", fn := fun _ => fun
  | [d1, d2, d3] => { results := [.lit (.bool false)], args := [d1, d2, d3] }
  | _ => none }
def NoiseGrowsWrongFalsely : Prop := noiseGrowsRow.holds Tryz.pinned (OpenSpec.ofChange noiseGrowsWrong)

/-- 'obscuralaw15.NoiseSums': WHATEVER THE INPUT: true; the input reads as it did. -/
def noiseSumsSpec : ChangeSpec := { name := "noiseSums", fn := fun _ => fun
  | [d1, d2, d3] => { results := [.lit (.bool true)], args := [d1, d2, d3] }
  | _ => none }
def noiseSumsRow : OpenClaim := { program := "ytdcenblblimkfaagreat", sum := "ee187acc98faed70e510847e2daa4d775140fafd7d46e0236429acc0944e9aee", func := "obscura/obscuralaw15.NoiseSums", spec := "noiseSums", unfollowed := true, recurses := true, apart := false }
def NoiseSumsSaid : Prop := noiseSumsRow.holds Tryz.pinned (OpenSpec.ofChange noiseSumsSpec)

/-- ITS FALSE NEIGHBOUR: 'it returns false'. Refute it at one input. -/
def noiseSumsWrong : ChangeSpec := { name := "noiseSums", fn := fun _ => fun
  | [d1, d2, d3] => { results := [.lit (.bool false)], args := [d1, d2, d3] }
  | _ => none }
def NoiseSumsWrongFalsely : Prop := noiseSumsRow.holds Tryz.pinned (OpenSpec.ofChange noiseSumsWrong)

/-- 'obscuralaw18.SwitchingKeys': WHATEVER THE INPUT: true; the input reads as it did. -/
def switchingKeysSpec : ChangeSpec := { name := "switchingKeys", fn := fun _ => fun
  | [d1, d2, d3] => { results := [.lit (.bool true)], args := [d1, d2, d3] }
  | _ => none }
def switchingKeysRow : OpenClaim := { program := "ytdcenblblimkfaagreat", sum := "ee187acc98faed70e510847e2daa4d775140fafd7d46e0236429acc0944e9aee", func := "obscura/obscuralaw18.SwitchingKeys", spec := "switchingKeys", unfollowed := true, recurses := true, apart := false }
def SwitchingKeysSaid : Prop := switchingKeysRow.holds Tryz.pinned (OpenSpec.ofChange switchingKeysSpec)

/-- ITS FALSE NEIGHBOUR: 'it returns false'. Refute it at one input. -/
def switchingKeysWrong : ChangeSpec := { name := "switchingKeys", fn := fun _ => fun
  | [d1, d2, d3] => { results := [.lit (.bool false)], args := [d1, d2, d3] }
  | _ => none }
def SwitchingKeysWrongFalsely : Prop := switchingKeysRow.holds Tryz.pinned (OpenSpec.ofChange switchingKeysWrong)

/- THE SECOND FORM. 'bulk': how many values and letters a reading holds, each counted each time it is reached (what is shared counts as often as it is met; a slice's spare places count too). A statement '..UptoSaid' is the law's where the arguments, and the package variables that the reading takes, are together of bulk at most 1048576: NARROWER than '..Said'. Prove '..Said' where nothing that the law and all that it calls make is longer than what came in: it says more and counts as full. Else prove '..UptoSaid'. A law counts once. -/
mutual
def uptoBulk {H : Type} : DataW H → Nat
  | .lit (.string bytes) => bytes.length + 1
  | .lit _ => 1
  | .nil => 1
  | .ptr d => uptoBulk d + 1
  | .slice elems spare => uptoBulkAll elems + uptoBulkAll spare + 1
  | .agg parts => uptoBulkAll parts + 1
  | .iface _ d => uptoBulk d + 1
  | .map entries => uptoBulkEntries entries + 1
  | .held _ => 1
def uptoBulkAll {H : Type} : List (DataW H) → Nat
  | [] => 0
  | d :: r => uptoBulk d + uptoBulkAll r
def uptoBulkEntries {H : Type} : List (Lit × DataW H) → Nat
  | [] => 0
  | x :: r => uptoBulkEntry x + uptoBulkEntries r
def uptoBulkEntry {H : Type} : Lit × DataW H → Nat
  | (.string bytes, d) => bytes.length + uptoBulk d + 1
  | (_, d) => uptoBulk d + 1
 end
def uptoSmall : (H : Type) → List (DataW H) → Bool := fun _ ds => decide (uptoBulkAll ds ≤ 1048576)
def OpenSpec.upto (s : _root_.Go.ChangeSpec) : _root_.Go.OpenSpec := { _root_.Go.OpenSpec.ofChange s with cond := some uptoSmall }

/-- 'obscuralaw16.ArithScales', WHERE WHAT IT READS IS OF BULK AT MOST 1048576: true; the input reads as it did. -/
def arithScalesUptoRow : OpenClaim := { program := "ytdcenblblimkfaagreat", sum := "ee187acc98faed70e510847e2daa4d775140fafd7d46e0236429acc0944e9aee", func := "obscura/obscuralaw16.ArithScales", spec := "arithScales", unfollowed := true, recurses := true, apart := false, narrowed := true }
def ArithScalesUptoSaid : Prop := arithScalesUptoRow.holds Tryz.pinned (OpenSpec.upto arithScalesSpec)

/-- 'obscuralaw15.NoiseTo', WHERE WHAT IT READS IS OF BULK AT MOST 1048576: true; the input reads as it did. -/
def noiseToUptoRow : OpenClaim := { program := "ytdcenblblimkfaagreat", sum := "ee187acc98faed70e510847e2daa4d775140fafd7d46e0236429acc0944e9aee", func := "obscura/obscuralaw15.NoiseTo", spec := "noiseTo", unfollowed := true, recurses := true, apart := false, narrowed := true }
def NoiseToUptoSaid : Prop := noiseToUptoRow.holds Tryz.pinned (OpenSpec.upto noiseToSpec)

/-- 'obscuralaw15.NoiseFresh', WHERE WHAT IT READS IS OF BULK AT MOST 1048576: true; the input reads as it did. -/
def noiseFreshUptoRow : OpenClaim := { program := "ytdcenblblimkfaagreat", sum := "ee187acc98faed70e510847e2daa4d775140fafd7d46e0236429acc0944e9aee", func := "obscura/obscuralaw15.NoiseFresh", spec := "noiseFresh", unfollowed := true, recurses := true, apart := false, narrowed := true }
def NoiseFreshUptoSaid : Prop := noiseFreshUptoRow.holds Tryz.pinned (OpenSpec.upto noiseFreshSpec)

/-- 'obscuralaw15.NoiseFloors', WHERE WHAT IT READS IS OF BULK AT MOST 1048576: true; the input reads as it did. -/
def noiseFloorsUptoRow : OpenClaim := { program := "ytdcenblblimkfaagreat", sum := "ee187acc98faed70e510847e2daa4d775140fafd7d46e0236429acc0944e9aee", func := "obscura/obscuralaw15.NoiseFloors", spec := "noiseFloors", unfollowed := true, recurses := true, apart := false, narrowed := true }
def NoiseFloorsUptoSaid : Prop := noiseFloorsUptoRow.holds Tryz.pinned (OpenSpec.upto noiseFloorsSpec)

/-- 'obscuralaw15.NoiseLevels', WHERE WHAT IT READS IS OF BULK AT MOST 1048576: true; the input reads as it did. -/
def noiseLevelsUptoRow : OpenClaim := { program := "ytdcenblblimkfaagreat", sum := "ee187acc98faed70e510847e2daa4d775140fafd7d46e0236429acc0944e9aee", func := "obscura/obscuralaw15.NoiseLevels", spec := "noiseLevels", unfollowed := true, recurses := true, apart := false, narrowed := true }
def NoiseLevelsUptoSaid : Prop := noiseLevelsUptoRow.holds Tryz.pinned (OpenSpec.upto noiseLevelsSpec)

/-- 'obscuralaw15.NoiseGrows', WHERE WHAT IT READS IS OF BULK AT MOST 1048576: true; the input reads as it did. -/
def noiseGrowsUptoRow : OpenClaim := { program := "ytdcenblblimkfaagreat", sum := "ee187acc98faed70e510847e2daa4d775140fafd7d46e0236429acc0944e9aee", func := "obscura/obscuralaw15.NoiseGrows", spec := "noiseGrows", unfollowed := true, recurses := true, apart := false, narrowed := true }
def NoiseGrowsUptoSaid : Prop := noiseGrowsUptoRow.holds Tryz.pinned (OpenSpec.upto noiseGrowsSpec)

/-- 'obscuralaw15.NoiseSums', WHERE WHAT IT READS IS OF BULK AT MOST 1048576: true; the input reads as it did. -/
def noiseSumsUptoRow : OpenClaim := { program := "ytdcenblblimkfaagreat", sum := "ee187acc98faed70e510847e2daa4d775140fafd7d46e0236429acc0944e9aee", func := "obscura/obscuralaw15.NoiseSums", spec := "noiseSums", unfollowed := true, recurses := true, apart := false, narrowed := true }
def NoiseSumsUptoSaid : Prop := noiseSumsUptoRow.holds Tryz.pinned (OpenSpec.upto noiseSumsSpec)

/-- 'obscuralaw18.SwitchingKeys', WHERE WHAT IT READS IS OF BULK AT MOST 1048576: true; the input reads as it did. -/
def switchingKeysUptoRow : OpenClaim := { program := "ytdcenblblimkfaagreat", sum := "ee187acc98faed70e510847e2daa4d775140fafd7d46e0236429acc0944e9aee", func := "obscura/obscuralaw18.SwitchingKeys", spec := "switchingKeys", unfollowed := true, recurses := true, apart := false, narrowed := true }
def SwitchingKeysUptoSaid : Prop := switchingKeysUptoRow.holds Tryz.pinned (OpenSpec.upto switchingKeysSpec)

end Rows
end Go.Proofs.YtdcenblblimkfaaGreat
