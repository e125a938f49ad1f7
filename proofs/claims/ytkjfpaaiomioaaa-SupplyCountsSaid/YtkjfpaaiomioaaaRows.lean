/-
  No cell of these rows narrows 'for every input' (looked for: loops, veiled, ifaces, maps, wideKeys, modest, calm, conditions, laid).
  DERIVED. THE GIVEN ROWS OF THIS SEAT. 4 by the template 'for every input the law returns true; each argument reads behind the call as it read before'; 0 by the template 'total and deterministic' (their statements: YtkjfpaaiomioaaaTotals.lean).
  GIVEN WITH THE SEED: the statements are not yours to turn. If you find one false, say at which input.
  Laid BY PROGRAM, IN A SANDBOX (cutbox-rows.mjs): the forced cells as the released guide's own fill.sh prints them over the translation 14f88e27395ab925… (all of the seat's roots in one cut). By AI agents, Wed Nov 11 2026. No macro, syntax, notation, axiom, sorry.
-/
import Derived.Test.YtkjfpaaiomioaaaChecked
import GoSem.Claim
import GoSem.ClaimJoined
import GoSem.ClaimMapViews
import Derived.JoinedTies
import Derived.KernelRfl
namespace Go.Proofs.Ytkjfpaaiomioaaa
/- THE CELL 'sum', in the pinned program and in every row, IS THE sha256 OF THE DUMP (.gsa) THAT YtkjfpaaiomioaaaProg.lean LOADS. Nothing in Lean hashes anything: it is a label: what it is worth is what the hold of that sum in a sandbox is worth. -/
noncomputable def Try.pinned : Pinned := { name := "ytkjfpaaiomioaaa", sum := "14f88e27395ab92536bf91e6459f4c9a5639c1cebd9939391c94b2883d3d7821", checked := Try.checked }
namespace Rows
def none {H : Type} : Left H := { results := [], args := [] }

/-- 'obscuralaw10.SupplyCounts': WHATEVER THE INPUT: true; the input reads as it did. -/
def supplyCountsSpec : ChangeSpec := { name := "supplyCounts", fn := fun _ => fun
  | [d1, d2, d3] => { results := [.lit (.bool true)], args := [d1, d2, d3] }
  | _ => none }
def supplyCountsRow : OpenClaim := { program := "ytkjfpaaiomioaaa", sum := "14f88e27395ab92536bf91e6459f4c9a5639c1cebd9939391c94b2883d3d7821", func := "obscura/obscuralaw10.SupplyCounts", spec := "supplyCounts", unfollowed := true, recurses := true, apart := false }
def SupplyCountsSaid : Prop := supplyCountsRow.holds Try.pinned (OpenSpec.ofChange supplyCountsSpec)

/-- ITS FALSE NEIGHBOUR: 'it returns false'. Refute it at one input. -/
def supplyCountsWrong : ChangeSpec := { name := "supplyCounts", fn := fun _ => fun
  | [d1, d2, d3] => { results := [.lit (.bool false)], args := [d1, d2, d3] }
  | _ => none }
def SupplyCountsWrongFalsely : Prop := supplyCountsRow.holds Try.pinned (OpenSpec.ofChange supplyCountsWrong)

/-- 'obscuralaw10.SupplyPlays': WHATEVER THE INPUT: true; the input reads as it did. -/
def supplyPlaysSpec : ChangeSpec := { name := "supplyPlays", fn := fun _ => fun
  | [d1, d2] => { results := [.lit (.bool true)], args := [d1, d2] }
  | _ => none }
def supplyPlaysRow : OpenClaim := { program := "ytkjfpaaiomioaaa", sum := "14f88e27395ab92536bf91e6459f4c9a5639c1cebd9939391c94b2883d3d7821", func := "obscura/obscuralaw10.SupplyPlays", spec := "supplyPlays", unfollowed := true, recurses := true, apart := false }
def SupplyPlaysSaid : Prop := supplyPlaysRow.holds Try.pinned (OpenSpec.ofChange supplyPlaysSpec)

/-- ITS FALSE NEIGHBOUR: 'it returns false'. Refute it at one input. -/
def supplyPlaysWrong : ChangeSpec := { name := "supplyPlays", fn := fun _ => fun
  | [d1, d2] => { results := [.lit (.bool false)], args := [d1, d2] }
  | _ => none }
def SupplyPlaysWrongFalsely : Prop := supplyPlaysRow.holds Try.pinned (OpenSpec.ofChange supplyPlaysWrong)

/-- 'obscuralaw10.SupplyPrefix': WHATEVER THE INPUT: true; the input reads as it did. -/
def supplyPrefixSpec : ChangeSpec := { name := "supplyPrefix", fn := fun _ => fun
  | [d1, d2, d3] => { results := [.lit (.bool true)], args := [d1, d2, d3] }
  | _ => none }
def supplyPrefixRow : OpenClaim := { program := "ytkjfpaaiomioaaa", sum := "14f88e27395ab92536bf91e6459f4c9a5639c1cebd9939391c94b2883d3d7821", func := "obscura/obscuralaw10.SupplyPrefix", spec := "supplyPrefix", unfollowed := true, recurses := true, apart := false }
def SupplyPrefixSaid : Prop := supplyPrefixRow.holds Try.pinned (OpenSpec.ofChange supplyPrefixSpec)

/-- ITS FALSE NEIGHBOUR: 'it returns false'. Refute it at one input. -/
def supplyPrefixWrong : ChangeSpec := { name := "supplyPrefix", fn := fun _ => fun
  | [d1, d2, d3] => { results := [.lit (.bool false)], args := [d1, d2, d3] }
  | _ => none }
def SupplyPrefixWrongFalsely : Prop := supplyPrefixRow.holds Try.pinned (OpenSpec.ofChange supplyPrefixWrong)

/-- 'obscuralaw10.SupplyNone': WHATEVER THE INPUT: true; the input reads as it did. -/
def supplyNoneSpec : ChangeSpec := { name := "supplyNone", fn := fun _ => fun
  | [d1, d2] => { results := [.lit (.bool true)], args := [d1, d2] }
  | _ => none }
def supplyNoneRow : OpenClaim := { program := "ytkjfpaaiomioaaa", sum := "14f88e27395ab92536bf91e6459f4c9a5639c1cebd9939391c94b2883d3d7821", func := "obscura/obscuralaw10.SupplyNone", spec := "supplyNone", unfollowed := true, recurses := true, apart := false }
def SupplyNoneSaid : Prop := supplyNoneRow.holds Try.pinned (OpenSpec.ofChange supplyNoneSpec)

/-- ITS FALSE NEIGHBOUR: 'it returns false'. Refute it at one input. -/
def supplyNoneWrong : ChangeSpec := { name := "supplyNone", fn := fun _ => fun
  | [d1, d2] => { results := [.lit (.bool false)], args := [d1, d2] }
  | _ => none }
def SupplyNoneWrongFalsely : Prop := supplyNoneRow.holds Try.pinned (OpenSpec.ofChange supplyNoneWrong)

/- THE SECOND FORM. 'bulk': how many values and letters a reading holds, each counted each time it is reached (what is shared counts as often as it is met; a slice's spare places count too). A statement '..UptoSaid' is the law's where the arguments, and the package variables that the reading takes, are together of bulk at most 1048576: NARROWER than '..Said'. Prove '..Said' where nothing that the law and all that it calls make is longer than what came in: it says more and counts as full. Else prove '..UptoSaid'. A law counts once. -/
mutual
def uptoBulk {H : Type} : DataW H → Nat
  | .lit (.string bytes) => bytes.length + 1
  | .lit _ => 1
  | .nil => 1
  | .ptr d => uptoBulk d + 1
  | .slice elems spare => uptoBulkAll elems + uptoBulkAll spare + 1
  | .agg parts => uptoBulkAll parts + 1
  | .iface _ d => uptoBulk d + 1
  | .map entries => uptoBulkEntries entries + 1
  | .held _ => 1
def uptoBulkAll {H : Type} : List (DataW H) → Nat
  | [] => 0
  | d :: r => uptoBulk d + uptoBulkAll r
def uptoBulkEntries {H : Type} : List (Lit × DataW H) → Nat
  | [] => 0
  | x :: r => uptoBulkEntry x + uptoBulkEntries r
def uptoBulkEntry {H : Type} : Lit × DataW H → Nat
  | (.string bytes, d) => bytes.length + uptoBulk d + 1
  | (_, d) => uptoBulk d + 1
 end
def uptoSmall : (H : Type) → List (DataW H) → Bool := fun _ ds => decide (uptoBulkAll ds ≤ 1048576)
def OpenSpec.upto (s : _root_.Go.ChangeSpec) : _root_.Go.OpenSpec := { _root_.Go.OpenSpec.ofChange s with cond := some uptoSmall }

/-- 'obscuralaw10.SupplyCounts', WHERE WHAT IT READS IS OF BULK AT MOST 1048576: true; the input reads as it did. -/
def supplyCountsUptoRow : OpenClaim := { program := "ytkjfpaaiomioaaa", sum := "14f88e27395ab92536bf91e6459f4c9a5639c1cebd9939391c94b2883d3d7821", func := "obscura/obscuralaw10.SupplyCounts", spec := "supplyCounts", unfollowed := true, recurses := true, apart := false, narrowed := true }
def SupplyCountsUptoSaid : Prop := supplyCountsUptoRow.holds Try.pinned (OpenSpec.upto supplyCountsSpec)

/-- 'obscuralaw10.SupplyPlays', WHERE WHAT IT READS IS OF BULK AT MOST 1048576: true; the input reads as it did. -/
def supplyPlaysUptoRow : OpenClaim := { program := "ytkjfpaaiomioaaa", sum := "14f88e27395ab92536bf91e6459f4c9a5639c1cebd9939391c94b2883d3d7821", func := "obscura/obscuralaw10.SupplyPlays", spec := "supplyPlays", unfollowed := true, recurses := true, apart := false, narrowed := true }
def SupplyPlaysUptoSaid : Prop := supplyPlaysUptoRow.holds Try.pinned (OpenSpec.upto supplyPlaysSpec)

/-- 'obscuralaw10.SupplyPrefix', WHERE WHAT IT READS IS OF BULK AT MOST 1048576: true; the input reads as it did. -/
def supplyPrefixUptoRow : OpenClaim := { program := "ytkjfpaaiomioaaa", sum := "14f88e27395ab92536bf91e6459f4c9a5639c1cebd9939391c94b2883d3d7821", func := "obscura/obscuralaw10.SupplyPrefix", spec := "supplyPrefix", unfollowed := true, recurses := true, apart := false, narrowed := true }
def SupplyPrefixUptoSaid : Prop := supplyPrefixUptoRow.holds Try.pinned (OpenSpec.upto supplyPrefixSpec)

/-- 'obscuralaw10.SupplyNone', WHERE WHAT IT READS IS OF BULK AT MOST 1048576: true; the input reads as it did. -/
def supplyNoneUptoRow : OpenClaim := { program := "ytkjfpaaiomioaaa", sum := "14f88e27395ab92536bf91e6459f4c9a5639c1cebd9939391c94b2883d3d7821", func := "obscura/obscuralaw10.SupplyNone", spec := "supplyNone", unfollowed := true, recurses := true, apart := false, narrowed := true }
def SupplyNoneUptoSaid : Prop := supplyNoneUptoRow.holds Try.pinned (OpenSpec.upto supplyNoneSpec)

end Rows
end Go.Proofs.Ytkjfpaaiomioaaa
