/- The program's Prime.
The program's power of a prime.
The program's tests of parameters, one by one. -/
import Derived.Test.YtdcenblblimkfaaGreatPn24
import Derived.Test.YtdcenblblimkfaaGreatPn06
import Derived.Test.YtdcenblblimkfaaGreatPn03
set_option linter.unusedSimpArgs false
set_option linter.unusedVariables false
set_option linter.unnecessarySimpa false
set_option linter.unusedSectionVars false
namespace Go.Proofs.YtdcenblblimkfaaGreat
open Go.RowKit Go.Shelf

def smv (i:Nat):Nat:=[2,3,5,7,11,13,61].getD i 0
def bsv (i:Nat):Nat:=[2,7,61].getD i 0
theorem smv_bd:∀ i,i<7→2≤smv i∧smv i≤61:=by decide
theorem bsv_bd:∀ i,i<3→2≤bsv i∧bsv i≤61:=by decide
theorem smv_ne:∀ i,i<7→∀ j,j<7→smv j % smv i=0→i=j:=by decide
def PrimeP (n:Nat):Prop:=(∃ i,i<7∧n=smv i)∨(2≤n∧(∀ i,i<7→n % smv i≠0)∧∃ u k,n - 1=u*2 ^ k∧u % 2=1∧∀ i,i<3→Strong (bsv i) n u k)
theorem primeP_small {n i:Nat} (hi:i<7) (h:n % smv i=0):PrimeP n↔n=smv i:=by
 constructor
 ·rintro (⟨j,hj,rfl⟩ | ⟨_,h2,_⟩)
  ·rw [smv_ne i hi j hj h]
  ·exact absurd h (h2 i hi)
 ·intro e;exact .inl ⟨i,hi,e⟩
theorem primeP_iff {n:Nat} (h8:n % 8=1) (hr:n<65536∨(1073741824<n∧n<2147483648)):PrimeP n↔PrimeR n:=by
 constructor
 ·rintro (⟨i,hi,rfl⟩ | ⟨h2,hs,u,k,e,hu,hb⟩)
  ·have:∀ i,i<7→smv i % 8≠1:=by decide
   exact absurd h8 (this i hi)
  ·have e2:=hs 0 (by omega)
   have e7:=hs 3 (by omega)
   have e61:=hs 6 (by omega)
   simp only [smv,List.getD_cons_zero,List.getD_cons_succ] at e2 e7 e61
   exact .inr (.inr (.inr ⟨by omega,by omega,by omega,by omega,u,k,e,hu,hb 0 (by omega),hb 1 (by omega),hb 2 (by omega)⟩))
 ·rintro (rfl | rfl | rfl | ⟨h2,ho,h7,h61,u,k,e,hu,s2,s7,s61⟩)
  ·omega
  ·omega
  ·omega
  ·have hn:=strong_no (by omega) h8 hr e hu s2 s7 s61
   refine .inr ⟨by omega,?_,u,k,e,hu,?_⟩
   ·intro i hi
    match i,hi with
    | 0,_=>show n % 2≠0;omega
    | 1,_=>show n % 3≠0;omega
    | 2,_=>show n % 5≠0;omega
    | 3,_=>show n % 7≠0;omega
    | 4,_=>show n % 11≠0;omega
    | 5,_=>show n % 13≠0;omega
    | 6,_=>show n % 61≠0;omega
   ·intro i hi
    match i,hi with
    | 0,_=>exact s2
    | 1,_=>exact s7
    | 2,_=>exact s61
theorem smv_run (i:Nat) (h:i<7) (w:World):(Instr.index 263 (.agg #[.int .u32 2,.int .u32 3,.int .u32 5,.int .u32 7,.int .u32 11,.int .u32 13,.int .u32 61]) (.int .i64 (i:Int))).run Tryz.prog w = .ok (.int .u32 (smv i:Nat)) w:=by
 rcases (show i=0∨i=1∨i=2∨i=3∨i=4∨i=5∨i=6 by omega) with rfl | rfl | rfl | rfl | rfl | rfl | rfl
 all_goals kernel_rfl
theorem bsv_run (i:Nat) (h:i<3) (w:World):(Instr.index 264 (.agg #[.int .u32 2,.int .u32 7,.int .u32 61]) (.int .i64 (i:Int))).run Tryz.prog w = .ok (.int .u32 (bsv i:Nat)) w:=by
 rcases (show i=0∨i=1∨i=2 by omega) with rfl | rfl | rfl
 all_goals kernel_rfl

set_option maxHeartbeats 3200000 in
set_option maxRecDepth 100000 in
theorem mprime_walk (n:Nat) (w:World) (hn2:n≤2147483647) :
  Calls Tryz.prog 232 #[.int .u32 n] w fun e w'=>e = .returned (.bool (tr (PrimeP n)))∧Below w.heap.size w w':=by
 by_cases h2:n<2
 ·go_enter Tryz.func232,Tryz.ntmps232
  go_wp2
  go_ret
  rw [tr_neg (show ¬ PrimeP n from ?_)]
  exact ⟨rfl,Below.refl _ _⟩
  rintro (⟨i,hi,rfl⟩ | ⟨h,_⟩)
  ·have:=smv_bd i hi;omega
  ·omega
 have hd2:decide ((n:Int)<2)=false:=decide_eq_false (by omega)
 go_enter Tryz.func232,Tryz.ntmps232
 go_wp2
 go_loopg [10] 7 (fun j vi wr=>∃ i:Nat,vi = .int .i64 i∧i≤7∧7 - i≤j∧w=wr∧Hid (∀ i',i'<i→n % smv i'≠0))
 case atStart=>exact ⟨0,rfl,by omega,by omega,rfl,Lib.hid fun i' h=>by omega⟩
 case round=>
  obtain ⟨i,rfl,hi,hj,rfl,HS⟩:=hrel
  by_cases hlt:i<7
  ·have hrun:=smv_run i hlt
   have hb:=smv_bd i hlt
   have HP:=Lib.hid (fun h=>primeP_small (n:=n) (i:=i) hlt h)
   obtain ⟨x,hx⟩:∃ x,smv i=x:=⟨_,rfl⟩
   rw [hx] at hrun hb HP
   have HX:=Lib.hid hx
   obtain ⟨hb1,hb2⟩:=hb
   clear hx
   by_cases h0:n % x=0
   ·have hq:((n:Int) % (x:Int) == 0)=true:=by simp;omega
    go_wp2
    go_ret
    rw [tr_iff (HP.out h0)]
    by_cases e:n=x
    ·rw [tr_pos e];subst e;exact ⟨by simp,Below.refl _ _⟩
    ·rw [tr_neg e];exact ⟨by simp;omega,Below.refl _ _⟩
   ·have hq:((n:Int) % (x:Int) == 0)=false:=by simp;omega
    go_wp2
    go_roundg (7 - (i+1))
    case measure=>omega
    case rel=>
     refine ⟨i+1,by go_num,by omega,Nat.le_refl _,rfl,Lib.hid fun i' h=>?_⟩
     rcases Nat.lt_or_eq_of_le (Nat.le_of_lt_succ h) with h | h
     ·exact HS.out i' h
     ·subst h;rw [HX.out];exact h0
  ·obtain rfl:i=7:=by omega
   have hodd:n % 2=1:=by have:=HS.out 0 (by omega);simp only [smv,List.getD_cons_zero] at this;omega
   obtain ⟨u,k,hk,hu⟩:=odd_part (n:=n) (by omega) hn2
   have HK:=Lib.hid hk
   clear hk
   have hp:PrimeP n↔∀ i,i<3→Strong (bsv i) n u k:=by
    constructor
    ·rintro (⟨i,hi,rfl⟩ | ⟨_,_,v,j,e,hv,hs⟩)
     ·exact absurd (Nat.mod_self _) (HS.out i hi)
     ·exact fun i hi=>(hs i hi).same hv hu e HK.out
    ·exact fun h=>.inr ⟨by omega,HS.out,u,k,HK.out,hu,h⟩
   have HP:=Lib.hid hp
   clear hp HS
   rw [show (((7:Nat):Int))=7 from rfl]
   go_wp2
   go_loopg [22] 3 (fun j vi wr=>∃ i:Nat,vi = .int .i64 i∧i≤3∧3 - i≤j∧Hid (Below w.heap.size w wr)∧Hid (∀ i',i'<i→Strong (bsv i') n u k))
   case atStart=>exact ⟨0,rfl,by omega,by omega,Lib.hid (Below.refl _ _),Lib.hid fun i' h=>by omega⟩
   case round=>
    obtain ⟨i,rfl,hi,hj,HB,HS⟩:=hrel
    by_cases hlt:i<3
    ·have hrun:=bsv_run i hlt
     have hb:=bsv_bd i hlt
     obtain ⟨x,hx⟩:∃ x,bsv i=x:=⟨_,rfl⟩
     rw [hx] at hrun hb
     have HX:=Lib.hid hx
     clear hx
     have HC:=Lib.hid (mpasses_walk x n u k wr (by omega) (by omega) hn2 hodd hu HK.out)
     go_wp2_with fail
     (with_reducible refine Calls.mono HC.out ?_)
     rintro e w1 ⟨rfl,rfl⟩
     have HB1:Hid (Below w.heap.size w (wr.alloc (.cells #[.int .u64 n] 126))):=Lib.hid (HB.out.alloc HB.out.size _)
     clear HC
     by_cases hs:Strong x n u k
     ·rw [tr_pos hs]
      go_wp2
      go_roundg (3 - (i+1))
      case measure=>omega
      case rel=>
       refine ⟨i+1,by go_num,by omega,Nat.le_refl _,HB1,Lib.hid fun i' h=>?_⟩
       rcases Nat.lt_or_eq_of_le (Nat.le_of_lt_succ h) with h | h
       ·exact HS.out i' h
       ·subst h;rw [HX.out];exact hs
     ·rw [tr_neg hs]
      go_wp2
      go_ret
      rw [tr_neg (show ¬ PrimeP n from fun h=>hs (by rw [← HX.out];exact HP.out.1 h i hlt))]
      exact ⟨rfl,HB1.out⟩
    ·obtain rfl:i=3:=by omega
     go_wp2
     go_ret
     rw [tr_pos (HP.out.2 HS.out)]
     exact ⟨rfl,HB.out⟩

open Go.RowKit

set_option maxHeartbeats 3200000 in
set_option maxRecDepth 100000 in
theorem ppower_walk (n prime:Nat) (power:Int) (w:World) (hn:n=4∨n=8∨n=16∨n=32) (hp:prime≤4294967295) (hw1 : -9223372036854775808≤power) (hw2:power≤9223372036854775807) :
  Calls Tryz.prog 208 #[.int .i64 n,.int .u32 prime,.int .i64 power] w fun e w'=>e = .returned (.int .i64 (plainV n prime power:Nat))∧Below w.heap.size w w':=by
 have hn4:4≤n:=by omega
 have hn32:n≤32:=by omega
 by_cases h3:prime<3
 ·have g3:decide ((prime:Int)<3)=true:=decide_eq_true (by omega)
  have HV:Hid (plainV n prime power=0):=plainV_neg (fun h=>by have:=h.1;omega)
  go_enter Tryz.func208,Tryz.ntmps208
  go_wp2
  go_ret
  rw [HV.out]
  exact ⟨rfl,Below.refl _ _⟩
 have g3:decide ((prime:Int)<3)=false:=decide_eq_false (by omega)
 by_cases h6:65536≤prime
 ·have g6:decide ((65536:Int)≤(prime:Int))=true:=decide_eq_true (by omega)
  have HV:Hid (plainV n prime power=0):=plainV_neg (fun h=>by have:=h.2.1;omega)
  go_enter Tryz.func208,Tryz.ntmps208
  go_wp2
  go_ret
  rw [HV.out]
  exact ⟨rfl,Below.refl _ _⟩
 have g6:decide ((65536:Int)≤(prime:Int))=false:=decide_eq_false (by omega)
 have HC:=Lib.hid (mprime_walk prime w (by omega))
 by_cases hP:PrimeP prime
 case neg=>
  have HV:Hid (plainV n prime power=0):=plainV_neg (fun h=>hP ((primeP_iff (by have:=h.2.2.2.1;rcases hn with rfl | rfl | rfl | rfl<;>omega) (by omega)).2 h.2.2.1))
  rw [tr_neg hP] at HC
  go_enter Tryz.func208,Tryz.ntmps208
  go_wp2_with fail
  (with_reducible refine Calls.mono HC.out ?_)
  rintro e w1 ⟨rfl,hb⟩
  have HB:=Lib.hid hb
  clear hb
  go_wp2
  go_ret
  rw [HV.out]
  exact ⟨rfl,HB.out⟩
 rw [tr_pos hP] at HC
 obtain ⟨r,hr⟩:∃ r,prime % (2*n)=r:=⟨_,rfl⟩
 have er:(prime:Int) % (2*(n:Int))=(r:Int):=by rw [← hr];simp
 by_cases hm:r=1
 case neg=>
  have HV:Hid (plainV n prime power=0):=plainV_neg (fun h=>hm (by rw [← hr];exact h.2.2.2.1))
  have g7:((r:Int) != 1)=true:=by simp;omega
  clear hr
  go_enter Tryz.func208,Tryz.ntmps208
  go_wp2_with fail
  (with_reducible refine Calls.mono HC.out ?_)
  rintro e w1 ⟨rfl,hb⟩
  have HB:=Lib.hid hb
  clear hb
  go_wp2
  go_ret
  rw [HV.out]
  exact ⟨rfl,HB.out⟩
 subst hm
 have g7:(prime:Int) % (2*(n:Int))=1:=by rw [er];rfl
 clear er
 have HR:=Lib.hid hr
 clear hr
 by_cases h1:power<1
 ·have HV:Hid (plainV n prime power=0):=plainV_neg (fun h=>by have:=h.2.2.2.2.1;omega)
  go_enter Tryz.func208,Tryz.ntmps208
  go_wp2_with fail
  (with_reducible refine Calls.mono HC.out ?_)
  rintro e w1 ⟨rfl,hb⟩
  have HB:=Lib.hid hb
  clear hb
  go_wp2
  go_ret
  rw [HV.out]
  exact ⟨rfl,HB.out⟩
 obtain ⟨N,hN⟩:∃ N:Nat,power=(N:Int):=⟨power.toNat,by omega⟩
 subst hN
 have hV:prime ^ N≤2147483647→plainV n prime (N:Int)=prime ^ N:=fun h=>
  plainV_pos ⟨by omega,by omega,(primeP_iff (by have:=HR.out;rcases hn with rfl | rfl | rfl | rfl<;>omega) (by omega)).1 hP,HR.out,by omega,h⟩
 have hV0:2147483647<prime ^ N→plainV n prime (N:Int)=0:=fun h=>plainV_neg (fun k=>by have:=k.2.2.2.2.2;simp at this;omega)
 have HV:=Lib.hid hV
 have HV0:=Lib.hid hV0
 clear hV hV0 hP
 have g1:decide ((N:Int)<1)=false:=decide_eq_false (by omega)
 go_enter Tryz.func208,Tryz.ntmps208
 go_wp2_with fail
 (with_reducible refine Calls.mono HC.out ?_)
 rintro e w1 ⟨rfl,hb⟩
 have HB:=Lib.hid hb
 clear hb
 go_wp2
 go_loopg [7,32] N (fun k vt vi wr=>∃ i y:Nat,vt = .int .i64 y∧vi = .int .i64 i∧i≤N∧N - i≤k∧y≤2147483647∧Hid (y=prime ^ i)∧Hid (Below w.heap.size w wr))
 case atStart=>exact ⟨0,1,rfl,rfl,by omega,by omega,by omega,Lib.hid rfl,HB⟩
 case round=>
  clear HC HB
  obtain ⟨i,y,rfl,rfl,hi,hk,hy,HY,HB⟩:=hrel
  by_cases hlt:i<N
  ·obtain ⟨z,hz⟩:∃ z,y*prime=z:=⟨_,rfl⟩
   have ez:(y:Int)*(prime:Int)=(z:Int):=by rw [← hz];simp
   have hz2:z≤2147483647*65535:=by rw [← hz];exact Nat.mul_le_mul hy (by omega)
   have HZ:Hid (z=prime ^ (i+1)):=Lib.hid (by rw [← hz,HY.out,Nat.pow_succ])
   clear hz
   by_cases hov:2147483647<z
   ·go_wp2
    go_ret
    rw [HV0.out (pow_over (i:=i+1) (by omega) (by rw [← HZ.out];exact hov) (by omega))]
    exact ⟨rfl,HB.out⟩
   ·go_wp2
    go_roundg (N - (i+1))
    case measure=>omega
    case rel=>exact ⟨i+1,z,rfl,by go_num,by omega,Nat.le_refl _,by omega,HZ,HB⟩
  ·obtain rfl:i=N:=by omega
   go_wp2
   go_ret
   rw [HV.out (by rw [← HY.out];exact hy),← HY.out]
   exact ⟨rfl,HB.out⟩


theorem enters_pc1:∀ args w,(callFunc 231 args).run Tryz.prog w = .ok (.enter 231 args) w:=enters_of Tryz.func231 (by kernel_rfl) rfl
theorem enters_pc2:∀ args w,(callFunc 233 args).run Tryz.prog w = .ok (.enter 233 args) w:=enters_of Tryz.func233 (by kernel_rfl) rfl
theorem enters_pc3:∀ args w,(callFunc 234 args).run Tryz.prog w = .ok (.enter 234 args) w:=enters_of Tryz.func234 (by kernel_rfl) rfl
theorem enters_pc4:∀ args w,(callFunc 235 args).run Tryz.prog w = .ok (.enter 235 args) w:=enters_of Tryz.func235 (by kernel_rfl) rfl
theorem enters_pc5:∀ args w,(callFunc 236 args).run Tryz.prog w = .ok (.enter 236 args) w:=enters_of Tryz.func236 (by kernel_rfl) rfl
theorem enters_pc6:∀ args w,(callFunc 237 args).run Tryz.prog w = .ok (.enter 237 args) w:=enters_of Tryz.func237 (by kernel_rfl) rfl
theorem enters_pc61:∀ args w,(callFunc 238 args).run Tryz.prog w = .ok (.enter 238 args) w:=enters_of Tryz.func238 (by kernel_rfl) rfl
theorem enters_pc7:∀ args w,(callFunc 239 args).run Tryz.prog w = .ok (.enter 239 args) w:=enters_of Tryz.func239 (by kernel_rfl) rfl

def GoodP (step q:Nat):Prop:=1073741824<q∧q≤2147483647∧q % step=1∧PrimeP q
theorem goodP_iff {m q:Nat} (h8:m % 8=0):GoodP m q↔GoodQ m q:=by
 have hq:q % m=1→q % 8=1:=fun h=>by
  rw [← Nat.mod_mod_of_dvd q (Nat.dvd_of_mod_eq_zero h8),h]
 constructor
 ·rintro ⟨a,b,c,d⟩
  exact ⟨a,b,c,(primeP_iff (hq c) (.inr ⟨a,by omega⟩)).1 d⟩
 ·rintro ⟨a,b,c,d⟩
  exact ⟨a,b,c,(primeP_iff (hq c) (.inr ⟨a,by omega⟩)).2 d⟩

set_option maxHeartbeats 3200000 in
set_option maxRecDepth 100000 in
theorem pc1_walk (q m bs:Nat) (w:World) (hm1:1≤m) (hm2:m≤64*2147483647) (hq:q≤4294967295) (hb:w.cell? ⟨bs,0,none⟩=some (.int .i64 m)) :
  Calls Tryz.prog 231 #[.int .u32 q,.pointer (some ⟨bs,0,none⟩)] w fun e w'=>e = .returned (.bool (tr (GoodP m q)))∧Below w.heap.size w w':=by
 by_cases h1:1073741824<q
 case neg=>
  have g1:decide ((1073741824:Int)<(q:Int))=false:=decide_eq_false (by omega)
  rw [tr_neg (show ¬ GoodP m q from fun h=>h1 h.1)]
  go_enter Tryz.func231,Tryz.ntmps231
  go_wp2
  go_ret
  exact ⟨rfl,Below.refl _ _⟩
 have g1:decide ((1073741824:Int)<(q:Int))=true:=decide_eq_true (by omega)
 by_cases h2:q≤2147483647
 case neg=>
  have g2:decide ((q:Int)≤2147483647)=false:=decide_eq_false (by omega)
  rw [tr_neg (show ¬ GoodP m q from fun h=>h2 h.2.1)]
  go_enter Tryz.func231,Tryz.ntmps231
  go_wp2
  go_ret
  exact ⟨rfl,Below.refl _ _⟩
 have g2:decide ((q:Int)≤2147483647)=true:=decide_eq_true (by omega)
 obtain ⟨r,hr⟩:∃ r,q % m=r:=⟨_,rfl⟩
 have er:(q:Int) % (m:Int)=(r:Int):=by rw [← hr];simp
 by_cases h3:r=1
 case neg=>
  have g3:((r:Int) == 1)=false:=by simp;omega
  rw [tr_neg (show ¬ GoodP m q from fun h=>h3 (hr.symm.trans h.2.2.1))]
  clear hr h3
  go_enter Tryz.func231,Tryz.ntmps231
  go_wp2
  go_ret
  exact ⟨rfl,Below.refl _ _⟩
 have g3:((r:Int) == 1)=true:=by simp [h3]
 have HC:=Lib.hid (mprime_walk q w h2)
 rw [tr_iff (p:=PrimeP q) (q:=GoodP m q) ⟨fun h=>⟨h1,h2,hr.trans h3,h⟩,fun h=>h.2.2.2⟩] at HC
 clear hr h3
 go_enter Tryz.func231,Tryz.ntmps231
 go_wp2_with fail
 (with_reducible refine Calls.mono HC.out ?_)
 rintro e w1 ⟨rfl,hb1⟩
 have HB:=Lib.hid hb1
 clear hb1
 go_wp2
 go_ret
 exact ⟨rfl,HB.out⟩

theorem pc2_walk (t bt:Nat) (w:World) (hb:w.cell? ⟨bt,0,none⟩=some (.int .i64 t)) :
  Calls Tryz.prog 233 #[.pointer (some ⟨bt,0,none⟩)] w fun e w'=>e = .returned (.bool (tr (0<t)))∧Below w.heap.size w w':=by
 by_cases h:0<t
 ·have g:decide ((0:Int)<(t:Int))=true:=decide_eq_true (by omega)
  rw [tr_pos h]
  go_enter Tryz.func233,Tryz.ntmps233
  go_wp2
  go_ret
  exact ⟨rfl,Below.refl _ _⟩
 ·have g:decide ((0:Int)<(t:Int))=false:=decide_eq_false (by omega)
  rw [tr_neg h]
  go_enter Tryz.func233,Tryz.ntmps233
  go_wp2
  go_ret
  exact ⟨rfl,Below.refl _ _⟩
end Go.Proofs.YtdcenblblimkfaaGreat
