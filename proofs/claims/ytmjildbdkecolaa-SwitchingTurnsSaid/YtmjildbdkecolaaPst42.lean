/- The reference's product of two rows, by data. -/
import Derived.Test.YtmjildbdkecolaaPst29
import Derived.Test.YtmjildbdkecolaaPst01
set_option linter.unusedSimpArgs false
set_option linter.unusedVariables false
set_option linter.unnecessarySimpa false
namespace Go.Proofs.Ytmjildbdkecolaa
open Go.RowKit
set_option maxRecDepth 20000
set_option maxHeartbeats 4000000
theorem setE_put {h h' : Nat → Nat} {j v n : Nat} (hv : v = h' j) (ho : ∀ e, e < n → e ≠ j → h' e = h e) (e : Nat) (he : e < n) : setE (fun e => [.val (.int .u32 ((h e : Nat) : Int))]) j 0 [.val (.int .u32 ((v : Nat) : Int))] e = [.val (.int .u32 ((h' e : Nat) : Int))] := by
 subst hv
 unfold setE
 by_cases q : e = j
 ·subst q; simp [setL, takeL, dropL]
 ·simp [q, ho e he q]
section
variable {E2 : Nat → D} {H2 : Nat → Option Box} {env : List (Nat × D)} {box : List (Nat × Option Box)}
theorem row_put (k : Nat) {n j v : Nat} {h : Nat → Nat} (h' : Nat → Nat) (hv : v = h' j) (ho : ∀ e, e < n → e ≠ j → h' e = h e) (g : Sub (lk env) (hk ((k, some (rowB n h')) :: box)) E2 H2) (hb : Bl box k (.arr 22 n 1 (setE (fun e => [.val (.int .u32 ((h e : Nat) : Int))]) j 0 [.val (.int .u32 ((v : Nat) : Int))])) := by (repeat (first | exact Bl.here | apply Bl.there rfl))) : Sub (lk env) (hk box) E2 H2 := sub_arr k _ (fun e he => setE_put hv ho e he) (fun _ => rfl) g hb
end
end Go.Proofs.Ytmjildbdkecolaa
