/- What the kernel evaluates: small prime divisors alone; the numbers below 2^16. -/
import Derived.Test.YtdcenblblimkfaaGreatPk04
set_option linter.unusedSimpArgs false
set_option linter.unusedVariables false
set_option linter.unnecessarySimpa false
set_option linter.unusedSectionVars false
namespace Go.Proofs.YtdcenblblimkfaaGreat
theorem evFC:topC primesC=true:=by decide +kernel
theorem evFL:allB (fun i=>lowF (8*i+9)) 128=true:=by decide +kernel
end Go.Proofs.YtdcenblblimkfaaGreat
