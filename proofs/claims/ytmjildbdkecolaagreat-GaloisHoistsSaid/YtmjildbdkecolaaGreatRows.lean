/-
  No cell of these rows narrows 'for every input' (looked for: loops, veiled, ifaces, maps, wideKeys, modest, calm, conditions, laid).
  DERIVED. THE GIVEN ROWS OF THIS SEAT. 6 by the template 'for every input the law returns true; each argument reads behind the call as it read before'; 0 by the template 'total and deterministic' (their statements: YtmjildbdkecolaaGreatTotals.lean).
  GIVEN WITH THE SEED: the statements are not yours to turn. If you find one false, say at which input.
  Laid BY PROGRAM, IN A SANDBOX (cutbox-rows.mjs): the forced cells as the released guide's own fill.sh prints them over the translation b2b078b2d521108f… (all of the seat's roots in one cut). By AI agents, Wed Nov 11 2026. No macro, syntax, notation, axiom, sorry.
-/
import Derived.Test.YtmjildbdkecolaaGreatChecked
import GoSem.Claim
import GoSem.ClaimJoined
import GoSem.ClaimMapViews
import Derived.JoinedTies
import Derived.KernelRfl
namespace Go.Proofs.YtmjildbdkecolaaGreat
/- THE CELL 'sum', in the pinned program and in every row, IS THE sha256 OF THE DUMP (.gsa) THAT YtmjildbdkecolaaGreatProg.lean LOADS. Nothing in Lean hashes anything: it is a label: what it is worth is what the hold of that sum in a sandbox is worth. -/
noncomputable def Tryz.pinned : Pinned := { name := "ytmjildbdkecolaagreat", sum := "b2b078b2d521108f03bf72bdc6eecb1305814347124418e0ff7c2ed2a5b5c97d", checked := Tryz.checked }
namespace Rows
def none {H : Type} : Left H := { results := [], args := [] }

/-- 'obscuralaw18.SwitchingApplies': WHATEVER THE INPUT: true; the input reads as it did. -/
def switchingAppliesSpec : ChangeSpec := { name := "switchingApplies", fn := fun _ => fun
  | [d1, d2, d3] => { results := [.lit (.bool true)], args := [d1, d2, d3] }
  | _ => none }
def switchingAppliesRow : OpenClaim := { program := "ytmjildbdkecolaagreat", sum := "b2b078b2d521108f03bf72bdc6eecb1305814347124418e0ff7c2ed2a5b5c97d", func := "obscura/obscuralaw18.SwitchingApplies", spec := "switchingApplies", unfollowed := true, recurses := true, apart := false }
def SwitchingAppliesSaid : Prop := switchingAppliesRow.holds Tryz.pinned (OpenSpec.ofChange switchingAppliesSpec)

/-- ITS FALSE NEIGHBOUR: 'it returns false'. Refute it at one input. -/
def switchingAppliesWrong : ChangeSpec := { name := "switchingApplies", fn := fun _ => fun
  | [d1, d2, d3] => { results := [.lit (.bool false)], args := [d1, d2, d3] }
  | _ => none }
def SwitchingAppliesWrongFalsely : Prop := switchingAppliesRow.holds Tryz.pinned (OpenSpec.ofChange switchingAppliesWrong)

/-- 'obscuralaw18.SwitchingRelinearises': WHATEVER THE INPUT: true; the input reads as it did. -/
def switchingRelinearisesSpec : ChangeSpec := { name := "switchingRelinearises", fn := fun _ => fun
  | [d1, d2, d3] => { results := [.lit (.bool true)], args := [d1, d2, d3] }
  | _ => none }
def switchingRelinearisesRow : OpenClaim := { program := "ytmjildbdkecolaagreat", sum := "b2b078b2d521108f03bf72bdc6eecb1305814347124418e0ff7c2ed2a5b5c97d", func := "obscura/obscuralaw18.SwitchingRelinearises", spec := "switchingRelinearises", unfollowed := true, recurses := true, apart := false }
def SwitchingRelinearisesSaid : Prop := switchingRelinearisesRow.holds Tryz.pinned (OpenSpec.ofChange switchingRelinearisesSpec)

/-- ITS FALSE NEIGHBOUR: 'it returns false'. Refute it at one input. -/
def switchingRelinearisesWrong : ChangeSpec := { name := "switchingRelinearises", fn := fun _ => fun
  | [d1, d2, d3] => { results := [.lit (.bool false)], args := [d1, d2, d3] }
  | _ => none }
def SwitchingRelinearisesWrongFalsely : Prop := switchingRelinearisesRow.holds Tryz.pinned (OpenSpec.ofChange switchingRelinearisesWrong)

/-- 'obscuralaw19.GaloisApplies': WHATEVER THE INPUT: true; the input reads as it did. -/
def galoisAppliesSpec : ChangeSpec := { name := "galoisApplies", fn := fun _ => fun
  | [d1, d2, d3] => { results := [.lit (.bool true)], args := [d1, d2, d3] }
  | _ => none }
def galoisAppliesRow : OpenClaim := { program := "ytmjildbdkecolaagreat", sum := "b2b078b2d521108f03bf72bdc6eecb1305814347124418e0ff7c2ed2a5b5c97d", func := "obscura/obscuralaw19.GaloisApplies", spec := "galoisApplies", unfollowed := true, recurses := true, apart := false }
def GaloisAppliesSaid : Prop := galoisAppliesRow.holds Tryz.pinned (OpenSpec.ofChange galoisAppliesSpec)

/-- ITS FALSE NEIGHBOUR: 'it returns false'. Refute it at one input. -/
def galoisAppliesWrong : ChangeSpec := { name := "galoisApplies", fn := fun _ => fun
  | [d1, d2, d3] => { results := [.lit (.bool false)], args := [d1, d2, d3] }
  | _ => none }
def GaloisAppliesWrongFalsely : Prop := galoisAppliesRow.holds Tryz.pinned (OpenSpec.ofChange galoisAppliesWrong)

/-- 'obscuralaw18.SwitchingKeys': WHATEVER THE INPUT: true; the input reads as it did. -/
def switchingKeysSpec : ChangeSpec := { name := "switchingKeys", fn := fun _ => fun
  | [d1, d2, d3] => { results := [.lit (.bool true)], args := [d1, d2, d3] }
  | _ => none }
def switchingKeysRow : OpenClaim := { program := "ytmjildbdkecolaagreat", sum := "b2b078b2d521108f03bf72bdc6eecb1305814347124418e0ff7c2ed2a5b5c97d", func := "obscura/obscuralaw18.SwitchingKeys", spec := "switchingKeys", unfollowed := true, recurses := true, apart := false }
def SwitchingKeysSaid : Prop := switchingKeysRow.holds Tryz.pinned (OpenSpec.ofChange switchingKeysSpec)

/-- ITS FALSE NEIGHBOUR: 'it returns false'. Refute it at one input. -/
def switchingKeysWrong : ChangeSpec := { name := "switchingKeys", fn := fun _ => fun
  | [d1, d2, d3] => { results := [.lit (.bool false)], args := [d1, d2, d3] }
  | _ => none }
def SwitchingKeysWrongFalsely : Prop := switchingKeysRow.holds Tryz.pinned (OpenSpec.ofChange switchingKeysWrong)

/-- 'obscuralaw19.GaloisHoists': WHATEVER THE INPUT: true; the input reads as it did. -/
def galoisHoistsSpec : ChangeSpec := { name := "galoisHoists", fn := fun _ => fun
  | [d1, d2, d3] => { results := [.lit (.bool true)], args := [d1, d2, d3] }
  | _ => none }
def galoisHoistsRow : OpenClaim := { program := "ytmjildbdkecolaagreat", sum := "b2b078b2d521108f03bf72bdc6eecb1305814347124418e0ff7c2ed2a5b5c97d", func := "obscura/obscuralaw19.GaloisHoists", spec := "galoisHoists", unfollowed := true, recurses := true, apart := false }
def GaloisHoistsSaid : Prop := galoisHoistsRow.holds Tryz.pinned (OpenSpec.ofChange galoisHoistsSpec)

/-- ITS FALSE NEIGHBOUR: 'it returns false'. Refute it at one input. -/
def galoisHoistsWrong : ChangeSpec := { name := "galoisHoists", fn := fun _ => fun
  | [d1, d2, d3] => { results := [.lit (.bool false)], args := [d1, d2, d3] }
  | _ => none }
def GaloisHoistsWrongFalsely : Prop := galoisHoistsRow.holds Tryz.pinned (OpenSpec.ofChange galoisHoistsWrong)

/-- 'obscuralaw19.GaloisReaches': WHATEVER THE INPUT: true; the input reads as it did. -/
def galoisReachesSpec : ChangeSpec := { name := "galoisReaches", fn := fun _ => fun
  | [d1, d2, d3] => { results := [.lit (.bool true)], args := [d1, d2, d3] }
  | _ => none }
def galoisReachesRow : OpenClaim := { program := "ytmjildbdkecolaagreat", sum := "b2b078b2d521108f03bf72bdc6eecb1305814347124418e0ff7c2ed2a5b5c97d", func := "obscura/obscuralaw19.GaloisReaches", spec := "galoisReaches", unfollowed := true, recurses := true, apart := false }
def GaloisReachesSaid : Prop := galoisReachesRow.holds Tryz.pinned (OpenSpec.ofChange galoisReachesSpec)

/-- ITS FALSE NEIGHBOUR: 'it returns false'. Refute it at one input. -/
def galoisReachesWrong : ChangeSpec := { name := "galoisReaches", fn := fun _ => fun
  | [d1, d2, d3] => { results := [.lit (.bool false)], args := [d1, d2, d3] }
  | _ => none }
def GaloisReachesWrongFalsely : Prop := galoisReachesRow.holds Tryz.pinned (OpenSpec.ofChange galoisReachesWrong)

/- THE SECOND FORM. 'bulk': how many values and letters a reading holds, each counted each time it is reached (what is shared counts as often as it is met; a slice's spare places count too). A statement '..UptoSaid' is the law's where the arguments, and the package variables that the reading takes, are together of bulk at most 1048576: NARROWER than '..Said'. Prove '..Said' where nothing that the law and all that it calls make is longer than what came in: it says more and counts as full. Else prove '..UptoSaid'. A law counts once. -/
mutual
def uptoBulk {H : Type} : DataW H → Nat
  | .lit (.string bytes) => bytes.length + 1
  | .lit _ => 1
  | .nil => 1
  | .ptr d => uptoBulk d + 1
  | .slice elems spare => uptoBulkAll elems + uptoBulkAll spare + 1
  | .agg parts => uptoBulkAll parts + 1
  | .iface _ d => uptoBulk d + 1
  | .map entries => uptoBulkEntries entries + 1
  | .held _ => 1
def uptoBulkAll {H : Type} : List (DataW H) → Nat
  | [] => 0
  | d :: r => uptoBulk d + uptoBulkAll r
def uptoBulkEntries {H : Type} : List (Lit × DataW H) → Nat
  | [] => 0
  | x :: r => uptoBulkEntry x + uptoBulkEntries r
def uptoBulkEntry {H : Type} : Lit × DataW H → Nat
  | (.string bytes, d) => bytes.length + uptoBulk d + 1
  | (_, d) => uptoBulk d + 1
 end
def uptoSmall : (H : Type) → List (DataW H) → Bool := fun _ ds => decide (uptoBulkAll ds ≤ 1048576)
def OpenSpec.upto (s : _root_.Go.ChangeSpec) : _root_.Go.OpenSpec := { _root_.Go.OpenSpec.ofChange s with cond := some uptoSmall }

/-- 'obscuralaw18.SwitchingApplies', WHERE WHAT IT READS IS OF BULK AT MOST 1048576: true; the input reads as it did. -/
def switchingAppliesUptoRow : OpenClaim := { program := "ytmjildbdkecolaagreat", sum := "b2b078b2d521108f03bf72bdc6eecb1305814347124418e0ff7c2ed2a5b5c97d", func := "obscura/obscuralaw18.SwitchingApplies", spec := "switchingApplies", unfollowed := true, recurses := true, apart := false, narrowed := true }
def SwitchingAppliesUptoSaid : Prop := switchingAppliesUptoRow.holds Tryz.pinned (OpenSpec.upto switchingAppliesSpec)

/-- 'obscuralaw18.SwitchingRelinearises', WHERE WHAT IT READS IS OF BULK AT MOST 1048576: true; the input reads as it did. -/
def switchingRelinearisesUptoRow : OpenClaim := { program := "ytmjildbdkecolaagreat", sum := "b2b078b2d521108f03bf72bdc6eecb1305814347124418e0ff7c2ed2a5b5c97d", func := "obscura/obscuralaw18.SwitchingRelinearises", spec := "switchingRelinearises", unfollowed := true, recurses := true, apart := false, narrowed := true }
def SwitchingRelinearisesUptoSaid : Prop := switchingRelinearisesUptoRow.holds Tryz.pinned (OpenSpec.upto switchingRelinearisesSpec)

/-- 'obscuralaw19.GaloisApplies', WHERE WHAT IT READS IS OF BULK AT MOST 1048576: true; the input reads as it did. -/
def galoisAppliesUptoRow : OpenClaim := { program := "ytmjildbdkecolaagreat", sum := "b2b078b2d521108f03bf72bdc6eecb1305814347124418e0ff7c2ed2a5b5c97d", func := "obscura/obscuralaw19.GaloisApplies", spec := "galoisApplies", unfollowed := true, recurses := true, apart := false, narrowed := true }
def GaloisAppliesUptoSaid : Prop := galoisAppliesUptoRow.holds Tryz.pinned (OpenSpec.upto galoisAppliesSpec)

/-- 'obscuralaw18.SwitchingKeys', WHERE WHAT IT READS IS OF BULK AT MOST 1048576: true; the input reads as it did. -/
def switchingKeysUptoRow : OpenClaim := { program := "ytmjildbdkecolaagreat", sum := "b2b078b2d521108f03bf72bdc6eecb1305814347124418e0ff7c2ed2a5b5c97d", func := "obscura/obscuralaw18.SwitchingKeys", spec := "switchingKeys", unfollowed := true, recurses := true, apart := false, narrowed := true }
def SwitchingKeysUptoSaid : Prop := switchingKeysUptoRow.holds Tryz.pinned (OpenSpec.upto switchingKeysSpec)

/-- 'obscuralaw19.GaloisHoists', WHERE WHAT IT READS IS OF BULK AT MOST 1048576: true; the input reads as it did. -/
def galoisHoistsUptoRow : OpenClaim := { program := "ytmjildbdkecolaagreat", sum := "b2b078b2d521108f03bf72bdc6eecb1305814347124418e0ff7c2ed2a5b5c97d", func := "obscura/obscuralaw19.GaloisHoists", spec := "galoisHoists", unfollowed := true, recurses := true, apart := false, narrowed := true }
def GaloisHoistsUptoSaid : Prop := galoisHoistsUptoRow.holds Tryz.pinned (OpenSpec.upto galoisHoistsSpec)

/-- 'obscuralaw19.GaloisReaches', WHERE WHAT IT READS IS OF BULK AT MOST 1048576: true; the input reads as it did. -/
def galoisReachesUptoRow : OpenClaim := { program := "ytmjildbdkecolaagreat", sum := "b2b078b2d521108f03bf72bdc6eecb1305814347124418e0ff7c2ed2a5b5c97d", func := "obscura/obscuralaw19.GaloisReaches", spec := "galoisReaches", unfollowed := true, recurses := true, apart := false, narrowed := true }
def GaloisReachesUptoSaid : Prop := galoisReachesUptoRow.holds Tryz.pinned (OpenSpec.upto galoisReachesSpec)

end Rows
end Go.Proofs.YtmjildbdkecolaaGreat
