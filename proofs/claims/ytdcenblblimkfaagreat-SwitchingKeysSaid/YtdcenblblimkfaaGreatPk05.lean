/- What the kernel evaluates: great prime divisors. -/
import Derived.Test.YtdcenblblimkfaaGreatPk04
set_option linter.unusedSimpArgs false
set_option linter.unusedVariables false
set_option linter.unnecessarySimpa false
set_option linter.unusedSectionVars false
namespace Go.Proofs.YtdcenblblimkfaaGreat
theorem evFA1:allB (fun i=>smallF (2*i+1)) 181=true:=by decide +kernel
theorem evFA2:allB (fun i=>smallF (2*(11584+i)+1)) 181=true:=by decide +kernel
theorem evFA (i:Nat) (h:i<23168):smallF (2*i+1)=true:=by
 rcases Nat.lt_or_ge i 11584 with q | q
 ·exact allB_sound evFA1 i (by omega)
 ·have:=allB_sound evFA2 (i - 11584) (by omega)
  rwa [show 11584+(i - 11584)=i from by omega] at this
end Go.Proofs.YtdcenblblimkfaaGreat
