/- The program's products and powers of residues. -/
import Derived.Test.YtdcenblblimkfaaGreatPn03
import Derived.Shelf.Abstract
import Derived.Below
set_option linter.unusedSimpArgs false
set_option linter.unusedVariables false
set_option linter.unnecessarySimpa false
set_option linter.unusedSectionVars false
namespace Go.Proofs.YtdcenblblimkfaaGreat
open Go.RowKit Go.Shelf

theorem enters_product:∀ args w,(callFunc 323 args).run Tryz.prog w = .ok (.enter 323 args) w:=enters_of Tryz.func323 (by kernel_rfl) rfl

set_option maxHeartbeats 400000 in
theorem mproductC_walk (a b n p:Nat) (w:World) (ha:a≤4294967295) (hb:b≤4294967295) (hn:1≤n) (hn2:n≤4294967295) (hp:w.cell? ⟨p,0,none⟩=some (.int .u64 n)) :
  Calls Tryz.prog 323 #[.int .u32 a,.int .u32 b,.pointer (some ⟨p,0,none⟩)] w fun e w'=>e = .returned (.int .u32 ((a*b % n:Nat):Int))∧w'=w:=by
 have h1:a*b≤4294967295*4294967295:=Nat.mul_le_mul ha hb
 have h2:a*b % n<n:=Nat.mod_lt _ (by omega)
 go_enter Tryz.func323,Tryz.ntmps323
 go_wp2
 go_ret
 refine ⟨?_,rfl⟩
 have h3:(a:Int)*b % n=((a*b % n:Nat):Int):=by rw [Int.natCast_emod,Int.natCast_mul]
 go_num

set_option maxHeartbeats 400000 in
theorem mproduct_walk (n:Nat) (w:World) (hn2:n≤4294967295) :
  Calls Tryz.prog 315 #[.int .u32 n] w fun e w'=>e = .returned (.func (.func 323) #[] #[.pointer (some ⟨w.heap.size,0,none⟩)])∧w'=w.alloc (.cells #[.int .u64 n] 126):=by
 go_enter Tryz.func315,Tryz.ntmps315
 go_wp2
 go_ret
 refine ⟨?_,?_⟩
 ·rfl
 ·go_num
end Go.Proofs.YtdcenblblimkfaaGreat
