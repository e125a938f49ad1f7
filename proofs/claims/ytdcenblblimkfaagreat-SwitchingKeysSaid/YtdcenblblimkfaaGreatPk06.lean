/- What the kernel evaluates: prime divisors from 3001 to 46400. -/
import Derived.Test.YtdcenblblimkfaaGreatPk04
set_option linter.unusedSimpArgs false
set_option linter.unusedVariables false
set_option linter.unnecessarySimpa false
set_option linter.unusedSectionVars false
namespace Go.Proofs.YtdcenblblimkfaaGreat
theorem evFB2:allB (fun i=>midF (2*(1500+i)+1)) 110=true:=by decide +kernel
theorem evFB3:allB (fun i=>midF (2*(8540+i)+1)) 115=true:=by decide +kernel
theorem evFB4:allB (fun i=>midF (2*(15900+i)+1)) 115=true:=by decide +kernel
end Go.Proofs.YtdcenblblimkfaaGreat
