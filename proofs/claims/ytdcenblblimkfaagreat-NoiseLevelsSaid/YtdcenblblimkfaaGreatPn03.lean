/- The classes: which bases, with which signs, and which small primes
The strong test, and the class that a divisor puts a number in
The class of 11: what the kernel evaluates
The class of 13: what the kernel evaluates
The class of 3: what the kernel evaluates
The class of 5: what the kernel evaluates
The strong tests to 2, 7 and 61, and the small divisors: the law for the numbers that can stand in parameters
The reference's products and powers of residues.
The reference's strong test and Prime. -/
import Derived.Test.YtdcenblblimkfaaGreatPn01
import Derived.Test.YtdcenblblimkfaaGreatRows
import Derived.WalkKit
import Derived.WalkSpells
import Derived.WalkLawsBesides
import Derived.BigQuiet
import Derived.Outline
import Derived.Deep.LoopGhost
import Derived.Lib.Hide
set_option linter.unusedSimpArgs false
set_option linter.unusedVariables false
set_option linter.unnecessarySimpa false
set_option linter.unusedSectionVars false
namespace Go.Proofs.YtdcenblblimkfaaGreat
def cls3:Cls:=⟨3,2,true,7,false,61,false⟩
def small3:List Nat:=[3,19,83,131,283]
def isSmall3 (r:Nat):Bool:=cond (Nat.beq r 3) true ( cond (Nat.beq r 19) true ( cond (Nat.beq r 83) true ( cond (Nat.beq r 131) true ( cond (Nat.beq r 283) true (false)))))
def cls5:Cls:=⟨5,4,true,49,true,61,false⟩
def small5:List Nat:=[5,13,229,269]
def isSmall5 (r:Nat):Bool:=cond (Nat.beq r 5) true ( cond (Nat.beq r 13) true ( cond (Nat.beq r 229) true ( cond (Nat.beq r 269) true (false))))
def cls13:Cls:=⟨13,4,true,49,true,61,false⟩
def small13:List Nat:=[5,13,229,269]
def isSmall13 (r:Nat):Bool:=cond (Nat.beq r 5) true ( cond (Nat.beq r 13) true ( cond (Nat.beq r 229) true ( cond (Nat.beq r 269) true (false))))
def cls11:Cls:=⟨11,2,true,7,true,61,true⟩
def small11:List Nat:=[11,43,67,211]
def isSmall11 (r:Nat):Bool:=cond (Nat.beq r 11) true ( cond (Nat.beq r 43) true ( cond (Nat.beq r 67) true ( cond (Nat.beq r 211) true (false))))
def great3:List Nat:=[3,83,131,563,971,1571,5003,7307,8867,9491,13859,14843,16091,16187,16547,16763,16883,16931,17099,17419,17939,18059,18539,18731,19211,19379,19403,19739,20627,21059,21227,21467,22067,22091,22307,22571,22643,22739,22811,23099,46219]
def great5:List Nat:=[5,13,229,269,733,797,853,1277,2309,2693,2749,3533,3709,3877,4133,4373,4597,5669,5869,6173,6709,7573,7789,9029,9677,10253,10853,11093,11549,12277,12829,13093,13789,13933,14437,14717,15053,15277,15413,15629,15973,16229,16253,17093,17909,18133,18413,18749,18773,19157,20149,20389,20509,21773,22109,22189,22853,23917,23957,24197,24709,24889,25189,26981,27109,28069,28229,28789,28793,29077,29917,30509,30637,30757,34057,34429,36109,42457,42569,44189]
def great13:List Nat:=[5,13,229,269,733,797,853,1181,1277,2309,2693,2749,3461,3533,3709,3877,4373,4597,4861,5381,5869,6173,7573,7621,7789,8221,8501,9677,9901,10253,10853,11093,11549,11941,12277,12829,13789,14437,14461,15053,15973,17093,18133,20149,20261,22109,22853,22861,24709,24889,26981,28573,28661,29077,30133,30637,30757,32213,34057,35437,42457,43801]
def great11:List Nat:=[11,43,211,499,547,739,883,1019,1499,1619,2339,2347,3067,3571,3691,3739,4691,5107,5147,5419,6763,6841,7043,7219,8731,9851,10459,12251,14891,17033,17683,18211,19531,21379,22171]


def Strong (a n u k:Nat):Prop:=a ^ u % n=1∨∃ i,i<k∧a ^ (u*2 ^ i) % n=n - 1

theorem minus_of {x n l:Nat} (hn:2≤n) (hl:l∣n) (h:x % n=n - 1):(x+1) % n=0∧(x+1) % l=0:=by
 have h1:(x+1) % n=0:=by
  rw [Nat.add_mod,h]
  rcases Nat.lt_or_ge 1 n with h2 | h2
  ·rw [Nat.mod_eq_of_lt h2,show n - 1+1=n from by omega,Nat.mod_self]
  ·omega
 exact ⟨h1,by rw [← Nat.mod_mod_of_dvd _ hl,h1,Nat.zero_mod]⟩
theorem plus_of {x n l:Nat} (hl2:2≤l) (hl:l∣n) (h:x % n=1):x % l=1:=by
 rw [← Nat.mod_mod_of_dvd _ hl,h,Nat.mod_eq_of_lt (by omega)]
theorem even_exp {u i m:Nat} (hi:1≤i) (hm:m % 2=0):u*2 ^ i % m % 2=0:=by
 rw [Nat.mod_mod_of_dvd _ (Nat.dvd_of_mod_eq_zero hm)]
 obtain ⟨j,rfl⟩:∃ j,i=j+1:=⟨i - 1,by omega⟩
 rw [Nat.pow_succ,← Nat.mul_assoc,Nat.mul_mod_left]
theorem four_exp {u i m:Nat} (hi:2≤i) (hm:m % 4=0):u*2 ^ i % m % 4=0:=by
 rw [Nat.mod_mod_of_dvd _ (Nat.dvd_of_mod_eq_zero hm)]
 obtain ⟨j,rfl⟩:∃ j,i=j+2:=⟨i - 2,by omega⟩
 rw [Nat.pow_add,← Nat.mul_assoc,show (2:Nat) ^ 2=4 from rfl,Nat.mul_mod_left]

theorem Strong.first {a n u k l m:Nat} (h:Strong a n u k) (hn:2≤n) (hl:l∣n) (hl2:2≤l) (hu:u % 2=1) (hm:One a m l) (hme:m % 2=0) (hm0:0<m)
  (h1:∀ t,t<m→t % 2=1→a ^ t % l≠1) (h2:∀ t,t<m→t % 2=0→(a ^ t+1) % l≠0):pone a true u n=true:=by
 rcases h with h | ⟨i,hi,h⟩
 ·exfalso
  have h3:=plus_of hl2 hl h
  rw [pow_cycle hm] at h3
  exact h1 _ (Nat.mod_lt _ hm0) (by rw [Nat.mod_mod_of_dvd _ (Nat.dvd_of_mod_eq_zero hme)];exact hu) h3
 ·rcases Nat.eq_zero_or_pos i with e | e
  ·subst e
   rw [Nat.pow_zero,Nat.mul_one] at h
   exact (beq_iff _ _).2 (minus_of hn hl h).1
  ·exfalso
   have h3:=(minus_of hn hl h).2
   rw [Nat.add_mod,pow_cycle hm,← Nat.add_mod] at h3
   exact h2 _ (Nat.mod_lt _ hm0) (even_exp e hme) h3
theorem Strong.second {a n u k l m:Nat} (h:Strong a n u k) (hn:2≤n) (hl:l∣n) (hl2:2≤l) (hu:u % 2=1) (hm:One a m l) (hme:m % 4=0) (hm0:0<m)
  (h1:∀ t,t<m→t % 2=1→a ^ t % l≠1) (h2:∀ t,t<m→t % 2=1→(a ^ t+1) % l≠0) (h3:∀ t,t<m→t % 4=0→(a ^ t+1) % l≠0) :
  pone (a ^ 2) true u n=true:=by
 have hodd:u % m % 2=1:=by rw [Nat.mod_mod_of_dvd _ (Nat.dvd_of_mod_eq_zero (by omega))];exact hu
 rcases h with h | ⟨i,hi,h⟩
 ·exfalso
  have h4:=plus_of hl2 hl h
  rw [pow_cycle hm] at h4
  exact h1 _ (Nat.mod_lt _ hm0) hodd h4
 ·have h4:=minus_of hn hl h
  match i,h4 with
  | 0,h4=>
   exfalso
   have h5:=h4.2
   rw [Nat.pow_zero,Nat.mul_one,Nat.add_mod,pow_cycle hm,← Nat.add_mod] at h5
   exact h2 _ (Nat.mod_lt _ hm0) hodd h5
  | 1,h4=>
   have h5:=h4.1
   rw [show u*2 ^ 1=2*u from by omega,Nat.pow_mul] at h5
   exact (beq_iff _ _).2 h5
  | j+2,h4=>
   exfalso
   have h5:=h4.2
   rw [Nat.add_mod,pow_cycle hm,← Nat.add_mod] at h5
   exact h3 _ (Nat.mod_lt _ hm0) (four_exp (by omega) hme) h5
theorem Strong.never {a n u k l m:Nat} (h:Strong a n u k) (hn:2≤n) (hl:l∣n) (hm:One a m l) (hm0:0<m)
  (h2:∀ t,t<m→(a ^ t+1) % l≠0):pone a false u n=true:=by
 rcases h with h | ⟨i,_,h⟩
 ·exact (beq_iff _ _).2 (by rw [h,Nat.mod_eq_of_lt (by omega)])
 ·exfalso
  have h3:=(minus_of hn hl h).2
  rw [Nat.add_mod,pow_cycle hm,← Nat.add_mod] at h3
  exact h2 _ (Nat.mod_lt _ hm0) h3

theorem odd_unique {u v j k:Nat} (hu:u % 2=1) (hv:v % 2=1) (h:u*2 ^ j=v*2 ^ k):u=v:=
 Nat.dvd_antisymm (odd_dvd hu k ⟨2 ^ j,h.symm⟩) (odd_dvd hv j ⟨2 ^ k,h⟩)

theorem conds3 {n u k:Nat} (hn:2≤n) (hl:3∣n) (hu:u % 2=1) (h2:Strong 2 n u k) (h7:Strong 7 n u k) (h61:Strong 61 n u k):cls3.conds u n=true:=
 (cls3.conds_iff u n).2 ⟨h2.first (m:=2) hn hl (by decide) hu (by unfold One;decide) (by decide) (by decide) (by decide) (by decide),
  h7.never (m:=1) hn hl (by unfold One;decide) (by decide) (by decide),h61.never (m:=1) hn hl (by unfold One;decide) (by decide) (by decide)⟩
theorem conds5 {n u k:Nat} (hn:2≤n) (hl:5∣n) (hu:u % 2=1) (h2:Strong 2 n u k) (h7:Strong 7 n u k) (h61:Strong 61 n u k):cls5.conds u n=true:=
 (cls5.conds_iff u n).2 ⟨h2.second (m:=4) hn hl (by decide) hu (by unfold One;decide) (by decide) (by decide) (by decide) (by decide) (by decide),
  h7.second (m:=4) hn hl (by decide) hu (by unfold One;decide) (by decide) (by decide) (by decide) (by decide) (by decide),
  h61.never (m:=1) hn hl (by unfold One;decide) (by decide) (by decide)⟩
theorem conds13 {n u k:Nat} (hn:2≤n) (hl:13∣n) (hu:u % 2=1) (h2:Strong 2 n u k) (h7:Strong 7 n u k) (h61:Strong 61 n u k):cls13.conds u n=true:=
 (cls13.conds_iff u n).2 ⟨h2.second (m:=12) hn hl (by decide) hu (by unfold One;decide) (by decide) (by decide) (by decide) (by decide) (by decide),
  h7.second (m:=12) hn hl (by decide) hu (by unfold One;decide) (by decide) (by decide) (by decide) (by decide) (by decide),
  h61.never (m:=3) hn hl (by unfold One;decide) (by decide) (by decide)⟩
theorem conds11 {n u k:Nat} (hn:2≤n) (hl:11∣n) (hu:u % 2=1) (h2:Strong 2 n u k) (h7:Strong 7 n u k) (h61:Strong 61 n u k):cls11.conds u n=true:=
 (cls11.conds_iff u n).2 ⟨h2.first (m:=10) hn hl (by decide) hu (by unfold One;decide) (by decide) (by decide) (by decide) (by decide),
  h7.first (m:=10) hn hl (by decide) hu (by unfold One;decide) (by decide) (by decide) (by decide) (by decide),
  h61.first (m:=10) hn hl (by decide) hu (by unfold One;decide) (by decide) (by decide) (by decide) (by decide)⟩

theorem evA11:cls11.chkA (prodL great11) 33=true:=by decide +kernel
theorem evC11:allB (fun r=>cls11.low isSmall11 r) 5=true:=by decide +kernel
theorem evS11:(small11.all fun s=>cls11.sqs s)=true:=by decide +kernel
theorem evT11:(great11.all fun s=>Nat.ble 1 s && Nat.ble s 46340)=true:=by decide +kernel
theorem evB11:cls11.chkB 150 20=true:=by decide +kernel
theorem evB11':cls11.chkB 1430 340=true:=by decide +kernel

theorem evA13:cls13.chkA (prodL great13) 28=true:=by decide +kernel
theorem evC13:allB (fun r=>cls13.low isSmall13 r) 5=true:=by decide +kernel
theorem evS13:(small13.all fun s=>cls13.sqs s)=true:=by decide +kernel
theorem evT13:(great13.all fun s=>Nat.ble 1 s && Nat.ble s 46340)=true:=by decide +kernel
theorem evB13:cls13.chkB 150 20=true:=by decide +kernel
theorem evB13':cls13.chkB 1430 340=true:=by decide +kernel

theorem evA3:cls3.chkA (prodL great3) 121=true:=by decide +kernel
theorem evC3:allB (fun r=>cls3.low isSmall3 r) 5=true:=by decide +kernel
theorem evS3:(small3.all fun s=>cls3.sqs s)=true:=by decide +kernel
theorem evT3:(great3.all fun s=>Nat.ble 1 s && Nat.ble s 46340)=true:=by decide +kernel
theorem evB3:cls3.chkB 150 20=true:=by decide +kernel
theorem evB3':cls3.chkB 1430 340=true:=by decide +kernel

theorem evA5:cls5.chkA (prodL great5) 73=true:=by decide +kernel
theorem evC5:allB (fun r=>cls5.low isSmall5 r) 5=true:=by decide +kernel
theorem evS5:(small5.all fun s=>cls5.sqs s)=true:=by decide +kernel
theorem evT5:(great5.all fun s=>Nat.ble 1 s && Nat.ble s 46340)=true:=by decide +kernel
theorem evB5:cls5.chkB 150 20=true:=by decide +kernel
theorem evB5':cls5.chkB 1430 340=true:=by decide +kernel


theorem pr_of {l:Nat} (h:2≤l∧∀ d,d≤l→l % d=0→d=1∨d=l):Pr l:=
 ⟨h.1,fun d hd=>h.2 d (Nat.le_of_dvd (by have:=h.1;omega) hd) (Nat.mod_eq_zero_of_dvd hd)⟩
theorem all_T {S:List Nat} (h:(S.all fun s=>Nat.ble 1 s && Nat.ble s 46340)=true):∀ s∈S,0<s∧s≤46340:=by
 intro s hs
 have:=List.all_eq_true.1 h s hs
 rw [Bool.and_eq_true] at this
 exact ⟨(ble_iff _ _).1 this.1,(ble_iff _ _).1 this.2⟩
theorem isS3:∀ r,isSmall3 r=true→r∈small3:=by
 intro r h
 unfold isSmall3 at h
 unfold small3
 cases h3:Nat.beq r 3 with
 | true=>rw [(beq_iff _ _).1 h3];decide
 | false=>
 rw [h3,cond_false] at h
 cases h19:Nat.beq r 19 with
 | true=>rw [(beq_iff _ _).1 h19];decide
 | false=>
 rw [h19,cond_false] at h
 cases h83:Nat.beq r 83 with
 | true=>rw [(beq_iff _ _).1 h83];decide
 | false=>
 rw [h83,cond_false] at h
 cases h131:Nat.beq r 131 with
 | true=>rw [(beq_iff _ _).1 h131];decide
 | false=>
 rw [h131,cond_false] at h
 cases h283:Nat.beq r 283 with
 | true=>rw [(beq_iff _ _).1 h283];decide
 | false=>
 rw [h283,cond_false] at h
 exact absurd h (by simp)
theorem isS5:∀ r,isSmall5 r=true→r∈small5:=by
 intro r h
 unfold isSmall5 at h
 unfold small5
 cases h5:Nat.beq r 5 with
 | true=>rw [(beq_iff _ _).1 h5];decide
 | false=>
 rw [h5,cond_false] at h
 cases h13:Nat.beq r 13 with
 | true=>rw [(beq_iff _ _).1 h13];decide
 | false=>
 rw [h13,cond_false] at h
 cases h229:Nat.beq r 229 with
 | true=>rw [(beq_iff _ _).1 h229];decide
 | false=>
 rw [h229,cond_false] at h
 cases h269:Nat.beq r 269 with
 | true=>rw [(beq_iff _ _).1 h269];decide
 | false=>
 rw [h269,cond_false] at h
 exact absurd h (by simp)
theorem isS13:∀ r,isSmall13 r=true→r∈small13:=by
 intro r h
 unfold isSmall13 at h
 unfold small13
 cases h5:Nat.beq r 5 with
 | true=>rw [(beq_iff _ _).1 h5];decide
 | false=>
 rw [h5,cond_false] at h
 cases h13:Nat.beq r 13 with
 | true=>rw [(beq_iff _ _).1 h13];decide
 | false=>
 rw [h13,cond_false] at h
 cases h229:Nat.beq r 229 with
 | true=>rw [(beq_iff _ _).1 h229];decide
 | false=>
 rw [h229,cond_false] at h
 cases h269:Nat.beq r 269 with
 | true=>rw [(beq_iff _ _).1 h269];decide
 | false=>
 rw [h269,cond_false] at h
 exact absurd h (by simp)
theorem isS11:∀ r,isSmall11 r=true→r∈small11:=by
 intro r h
 unfold isSmall11 at h
 unfold small11
 cases h11:Nat.beq r 11 with
 | true=>rw [(beq_iff _ _).1 h11];decide
 | false=>
 rw [h11,cond_false] at h
 cases h43:Nat.beq r 43 with
 | true=>rw [(beq_iff _ _).1 h43];decide
 | false=>
 rw [h43,cond_false] at h
 cases h67:Nat.beq r 67 with
 | true=>rw [(beq_iff _ _).1 h67];decide
 | false=>
 rw [h67,cond_false] at h
 cases h211:Nat.beq r 211 with
 | true=>rw [(beq_iff _ _).1 h211];decide
 | false=>
 rw [h211,cond_false] at h
 exact absurd h (by simp)
theorem none3 {q:Nat} (h1:1073741824<q) (h2:q<2147483648) (h8:q % 8=1) (hq:3∣q) (hc:cls3.conds (oddp 32 (q - 1)) q=true):False:=
 cls3.nothing small3 great3 isSmall3 121 (pr_of (by decide)) (by decide) (by decide) (all_T evT3) isS3 (by decide) (List.all_eq_true.1 evS3) evA3 (by decide) evB3 evB3' evC3 h1 h2 h8 hq hc
theorem none5 {q:Nat} (h1:1073741824<q) (h2:q<2147483648) (h8:q % 8=1) (hq:5∣q) (hc:cls5.conds (oddp 32 (q - 1)) q=true):False:=
 cls5.nothing small5 great5 isSmall5 73 (pr_of (by decide)) (by decide) (by decide) (all_T evT5) isS5 (by decide) (List.all_eq_true.1 evS5) evA5 (by decide) evB5 evB5' evC5 h1 h2 h8 hq hc
theorem none13 {q:Nat} (h1:1073741824<q) (h2:q<2147483648) (h8:q % 8=1) (hq:13∣q) (hc:cls13.conds (oddp 32 (q - 1)) q=true):False:=
 cls13.nothing small13 great13 isSmall13 28 (pr_of (by decide)) (by decide) (by decide) (all_T evT13) isS13 (by decide) (List.all_eq_true.1 evS13) evA13 (by decide) evB13 evB13' evC13 h1 h2 h8 hq hc
theorem none11 {q:Nat} (h1:1073741824<q) (h2:q<2147483648) (h8:q % 8=1) (hq:11∣q) (hc:cls11.conds (oddp 32 (q - 1)) q=true):False:=
 cls11.nothing small11 great11 isSmall11 33 (pr_of (by decide)) (by decide) (by decide) (all_T evT11) isS11 (by decide) (List.all_eq_true.1 evS11) evA11 (by decide) evB11 evB11' evC11 h1 h2 h8 hq hc
theorem evLow:allB (fun i=>cls3.ref (8*i+9) && cls5.ref (8*i+9) && cls13.ref (8*i+9) && cls11.ref (8*i+9)) 128=true:=by decide +kernel
theorem low_no (c:Cls) {q:Nat} (h1:2≤q) (h2:q<65536) (h8:q % 8=1) (hr:c.ref q=true) (hq:c.l∣q) (hc:c.conds (oddp 32 (q - 1)) q=true):False:=by
 rw [c.ref_no h1 (by omega) h8 hq hc] at hr
 exact absurd hr (by simp)
theorem dvd_of_some {n:Nat} (h:n % 3=0∨n % 5=0∨n % 11=0∨n % 13=0):3∣n∨5∣n∨11∣n∨13∣n:=by omega

theorem strong_no {n u k:Nat} (hn:2≤n) (h8:n % 8=1) (hr:n<65536∨(1073741824<n∧n<2147483648)) (huk:n - 1=u*2 ^ k) (hu:u % 2=1)
  (h2:Strong 2 n u k) (h7:Strong 7 n u k) (h61:Strong 61 n u k):¬ (n % 3=0∨n % 5=0∨n % 11=0∨n % 13=0):=by
 intro hd
 obtain ⟨ho,j,hj⟩:=oddp_spec 32 (n - 1) (by omega) (by omega)
 have e:oddp 32 (n - 1)=u:=odd_unique (j:=j) (k:=k) ho hu (by rw [← hj,huk])
 have hd':=dvd_of_some hd
 rcases hr with hr | ⟨hr1,hr2⟩
 ·have h:=allB_sound evLow ((n - 9) / 8) (by omega)
  rw [show 8*((n - 9) / 8)+9=n from by omega] at h
  simp only [Bool.and_eq_true] at h
  obtain ⟨⟨⟨r3,r5⟩,r13⟩,r11⟩:=h
  rcases hd' with hl | hl | hl | hl
  ·exact low_no cls3 hn hr h8 r3 hl (by rw [e];exact conds3 hn hl hu h2 h7 h61)
  ·exact low_no cls5 hn hr h8 r5 hl (by rw [e];exact conds5 hn hl hu h2 h7 h61)
  ·exact low_no cls11 hn hr h8 r11 hl (by rw [e];exact conds11 hn hl hu h2 h7 h61)
  ·exact low_no cls13 hn hr h8 r13 hl (by rw [e];exact conds13 hn hl hu h2 h7 h61)
 ·rcases hd' with hl | hl | hl | hl
  ·exact none3 hr1 hr2 h8 hl (by rw [e];exact conds3 hn hl hu h2 h7 h61)
  ·exact none5 hr1 hr2 h8 hl (by rw [e];exact conds5 hn hl hu h2 h7 h61)
  ·exact none11 hr1 hr2 h8 hl (by rw [e];exact conds11 hn hl hu h2 h7 h61)
  ·exact none13 hr1 hr2 h8 hl (by rw [e];exact conds13 hn hl hu h2 h7 h61)

open Go.RowKit

set_option maxHeartbeats 400000 in
theorem rtimes_walk (a b n:Nat) (w:World) (ha:a≤4294967295) (hb:b≤4294967295) (hn:1≤n) (hn2:n≤4294967295) :
  Calls Tryz.prog 290 #[.int .u32 a,.int .u32 b,.int .u32 n] w fun e w'=>e = .returned (.int .u32 ((a*b % n:Nat):Int))∧w'=w:=by
 have h1:a*b≤4294967295*4294967295:=Nat.mul_le_mul ha hb
 have h2:a*b % n<n:=Nat.mod_lt _ (by omega)
 go_enter Tryz.func290,Tryz.ntmps290
 go_wp2
 go_ret
 refine ⟨?_,rfl⟩
 have h3:(a:Int)*b % n=((a*b % n:Nat):Int):=by rw [Int.natCast_emod,Int.natCast_mul]
 go_num

theorem pow_half {n a e:Nat}:(a*a % n) ^ (e / 2) % n=a ^ (2*(e / 2)) % n:=by
 rw [← Nat.pow_mod,Nat.pow_mul,Nat.pow_two]
theorem pow_round (n out a e:Nat):((if e % 2=1 then out*a % n else out)*(a*a % n) ^ (e / 2)) % n=out*a ^ e % n:=by
 have h:=pow_half (n:=n) (a:=a) (e:=e)
 rcases Nat.mod_two_eq_zero_or_one e with h0 | h0
 ·rw [if_neg (by omega),Nat.mul_mod,h,← Nat.mul_mod,show 2*(e / 2)=e from by omega]
 ·rw [if_pos h0,Nat.mul_mod,h,Nat.mod_mod,← Nat.mul_mod,Nat.mul_assoc]
  congr 2
  rw [Nat.mul_comm,← Nat.pow_succ]
  congr 1;omega

set_option maxHeartbeats 400000 in
theorem rpower_walk (a x n:Nat) (w:World) (ha:a≤4294967295) (hx:x≤18446744073709551615) (hn:2≤n) (hn2:n≤4294967295) :
  Calls Tryz.prog 289 #[.int .u32 a,.int .u64 x,.int .u32 n] w fun e w'=>e = .returned (.int .u32 ((a ^ x % n:Nat):Int))∧w'=w:=by
 go_enter Tryz.func289,Tryz.ntmps289
 go_wp2
 go_loopw [7,0,1] (fun o b y wr=>∃ p c d:Nat,Hid (p*c ^ d % n=a ^ x % n)∧o = .int .u32 p∧b = .int .u32 c∧y = .int .u64 d∧p<n∧c≤4294967295∧d≤18446744073709551615∧wr=w) (fun _ _ y _=>(intOf y).toNat)
 case atStart=>exact ⟨1,a,x,Lib.hid (by rw [Nat.one_mul]),rfl,rfl,rfl,by omega,ha,hx,rfl⟩
 case round=>
  obtain ⟨p,c,d,HE,rfl,rfl,rfl,hp,hc,hd,rfl⟩:=hrel
  have hl1:p*c % n<n:=Nat.mod_lt _ (by omega)
  have hl2:c*c % n<n:=Nat.mod_lt _ (by omega)
  by_cases h0:0<d
  ·by_cases h1:d % 2=1
   ·go_wp2_with fail
    refine (rtimes_walk p c n _ (by omega) hc (by omega) hn2).mono ?_
    rintro e w1 ⟨rfl,rfl⟩
    go_wp2_with fail
    refine (rtimes_walk c c n _ hc hc (by omega) hn2).mono ?_
    rintro e w1 ⟨rfl,rfl⟩
    go_wp2
    go_roundw
    case rel=>
     exact ⟨p*c % n,c*c % n,d / 2,Lib.hid (by have:=pow_round n p c d;rw [if_pos h1] at this;rw [this];exact HE.out),rfl,rfl,by go_num,hl1,by omega,by omega,trivial⟩
    case measure=>simp [intOf];omega
   ·go_wp2_with fail
    refine (rtimes_walk c c n _ hc hc (by omega) hn2).mono ?_
    rintro e w1 ⟨rfl,rfl⟩
    go_wp2
    go_roundw
    case rel=>
     exact ⟨p,c*c % n,d / 2,Lib.hid (by have:=pow_round n p c d;rw [if_neg h1] at this;rw [this];exact HE.out),rfl,rfl,by go_num,hp,by omega,by omega,trivial⟩
    case measure=>simp [intOf];omega
  ·go_wp2
   go_ret
   obtain rfl:d=0:=by omega
   refine ⟨?_,rfl⟩
   have h:=HE.out
   rw [Nat.pow_zero,Nat.mul_one,Nat.mod_eq_of_lt hp] at h
   rw [h]
   rfl


noncomputable def tr (p:Prop):Bool:=@decide p (Classical.propDecidable p)
theorem tr_pos {p:Prop} (h:p):tr p=true:=@decide_eq_true p (Classical.propDecidable p) h
theorem tr_neg {p:Prop} (h:¬ p):tr p=false:=@decide_eq_false p (Classical.propDecidable p) h

theorem strong_sq (a n u i:Nat):(a ^ (u*2 ^ i) % n)*(a ^ (u*2 ^ i) % n) % n=a ^ (u*2 ^ (i+1)) % n:=by
 rw [← Nat.mul_mod,← Nat.pow_two,← Nat.pow_mul,Nat.mul_assoc,← Nat.pow_succ]

theorem tr_iff {p q:Prop} (h:p↔q):tr p=tr q:=by rw [propext h]

set_option maxHeartbeats 800000 in
set_option maxRecDepth 100000 in
theorem rstrong_walk (a n u k:Nat) (w:World) (ha:a≤4294967295) (hn:3≤n) (hn2:n≤2147483647) (hu:u % 2=1) (huk:n - 1=u*2 ^ k) :
  Calls Tryz.prog 260 #[.int .u32 a,.int .u32 n] w fun e w'=>e = .returned (.bool (tr (Strong a n u k)))∧w'=w:=by
 have hrem:=Nat.mod_lt a (show 0<n by omega)
 have hu1:u≤n - 1:=by
  have:=Nat.mul_le_mul_left u (show 1≤2 ^ k from Nat.pow_pos (by omega))
  omega
 have HUK:=Lib.hid huk
 clear huk
 go_enter Tryz.func260,Tryz.ntmps260
 go_wp2
 go_loopw [5] (fun y wr=>∃ d j:Nat,Hid (d=u*2 ^ j)∧y = .int .u32 d∧1≤d∧d≤n - 1∧wr=w) (fun y _=>(intOf y).toNat)
 case atStart=>exact ⟨n - 1,k,HUK,by go_num,by omega,by omega,rfl⟩
 case round=>
  obtain ⟨d,j,HD,rfl,hd1,hd2,rfl⟩:=hrel
  by_cases h0:d % 2=0
  ·go_wp2
   go_roundw
   case rel=>
    obtain ⟨i,rfl⟩:∃ i,j=i+1:=⟨j - 1,by
     have h:=HD.out
     rcases Nat.eq_zero_or_pos j with e | e
     ·subst e;rw [Nat.pow_zero,Nat.mul_one] at h;omega
     ·omega⟩
    refine ⟨d / 2,i,Lib.hid ?_,by go_num,by omega,by omega,trivial⟩
    have h:=HD.out
    rw [Nat.pow_succ,← Nat.mul_assoc] at h
    omega
   case measure=>simp [intOf];omega
  ·have hdu:d=u:=by
    have h:=HD.out
    exact odd_unique (j:=0) (k:=j) (by omega) hu (by rw [Nat.pow_zero,Nat.mul_one];exact h)
   subst hdu
   have hx:=Nat.mod_lt (a ^ d) (show 0<n by omega)
   go_wp2_with fail
   refine (rpower_walk (a % n) d n _ (by omega) (by omega) (by omega) (by omega)).mono ?_
   rintro e w1 ⟨rfl,rfl⟩
   rw [← Nat.pow_mod]
   generalize hy:a ^ d % n=y at *
   have HY:=Lib.hid hy
   clear hy
   by_cases h1:y=1
   ·subst h1
    go_wp2
    go_ret
    rw [tr_pos (.inl HY.out)]
    exact ⟨rfl,rfl⟩
   ·have hy1:((y:Int) == 1)=false:=by simp;omega
    go_wp2
    go_loopw [4,5,6] (fun r z x wr=>∃ c i v:Nat,r = .bool false∧Hid (c=d*2 ^ i)∧Hid (v=a ^ (d*2 ^ i) % n)∧Hid (∀ j,j<i→a ^ (d*2 ^ j) % n≠n - 1)∧z = .int .u32 c∧x = .int .u32 v∧i≤k∧v<n∧wr=w1) (fun _ z _ _=>n - (intOf z).toNat)
    case atStart=>exact ⟨d,0,y,rfl,Lib.hid (by rw [Nat.pow_zero,Nat.mul_one]),Lib.hid (by rw [Nat.pow_zero,Nat.mul_one];exact HY.out.symm),Lib.hid (by intro j hj;omega),rfl,rfl,Nat.zero_le _,hx,rfl⟩
    case round=>
     obtain ⟨c,i,v,rfl,HC,HV,HN,rfl,rfl,hik,hv,rfl⟩:=hrel
     have hvv:=Nat.mod_lt (v*v) (show 0<n by omega)
     have hc2:c≤n - 1∧(i<k→2*c≤n - 1∧1≤c)∧(i=k→c=n - 1):=by
      have h1:=HC.out
      have h2:=HUK.out
      refine ⟨?_,?_,?_⟩
      ·rw [h1,h2];exact Nat.mul_le_mul_left _ (Nat.pow_le_pow_right (by decide) hik)
      ·intro hlt
       refine ⟨?_,?_⟩
       ·rw [h1,h2,Nat.mul_comm,Nat.mul_assoc,← Nat.pow_succ]
        exact Nat.mul_le_mul_left _ (Nat.pow_le_pow_right (by decide) hlt)
       ·rw [h1];exact Nat.mul_pos (by omega) (Nat.pow_pos (by decide))
      ·intro e;rw [h1,h2,e]
     obtain ⟨hc0,hc1,hc3⟩:=hc2
     by_cases hlt:i<k
     ·have hc1:=hc1 hlt
      clear hc3
      by_cases hvn:v=n - 1
      ·go_wp2
       go_ret
       rw [tr_pos (.inr ⟨i,hlt,by rw [← HV.out];exact hvn⟩)]
       exact ⟨rfl,rfl⟩
      ·have hne:¬ (v:Int)=(n:Int) - 1:=by omega
       go_wp2_with fail
       refine (rtimes_walk v v n _ (by omega) (by omega) (by omega) (by omega)).mono ?_
       rintro e w2 ⟨rfl,rfl⟩
       go_wp2
       go_roundw
       case rel=>
        refine ⟨2*c,i+1,v*v % n,rfl,Lib.hid ?_,Lib.hid ?_,Lib.hid ?_,by go_num,rfl,by omega,hvv,trivial⟩
        ·rw [HC.out,Nat.pow_succ,Nat.mul_comm 2,Nat.mul_assoc]
        ·have:=strong_sq a n d i
         rw [HV.out];exact this
        ·intro j hj
         rcases Nat.lt_or_eq_of_le (Nat.le_of_lt_succ hj) with h | h
         ·exact HN.out j h
         ·subst h;rw [← HV.out];exact hvn
       case measure=>simp [intOf];omega
     ·obtain rfl:i=k:=by omega
      have hc3:=hc3 rfl
      clear hc1
      go_wp2
      go_ret
      rw [tr_neg (show ¬ Strong a n d i from ?_)]
      exact ⟨rfl,rfl⟩
      intro h
      rcases h with h | ⟨j,hj,h⟩
      ·exact absurd (HY.out.symm.trans h) h1
      ·exact absurd h (HN.out j hj)

def PrimeR (n:Nat):Prop:=n=2∨n=7∨n=61∨(2<n∧n % 2=1∧0<n % 7∧0<n % 61∧∃ u k,n - 1=u*2 ^ k∧u % 2=1∧Strong 2 n u k∧Strong 7 n u k∧Strong 61 n u k)

theorem odd_part {n:Nat} (h:2<n) (h2:n≤2147483647):∃ u k,n - 1=u*2 ^ k∧u % 2=1:=by
 obtain ⟨h1,k,hk⟩:=oddp_spec 32 (n - 1) (by omega) (by omega)
 exact ⟨_,k,hk,h1⟩
theorem Strong.same {a n u k v j:Nat} (h:Strong a n u k) (hu:u % 2=1) (hv:v % 2=1) (e1:n - 1=u*2 ^ k) (e2:n - 1=v*2 ^ j):Strong a n v j:=by
 have e:=odd_unique hu hv (e1.symm.trans e2)
 subst e
 have hu0:0<u:=by omega
 have:k=j:=by
  have e:=Nat.eq_of_mul_eq_mul_left hu0 (e1.symm.trans e2)
  exact (Nat.pow_right_inj (by decide)).1 e
 subst this
 exact h

set_option maxHeartbeats 800000 in
set_option maxRecDepth 100000 in
theorem rprime_walk (n:Nat) (w:World) (hn2:n≤2147483647) :
  Calls Tryz.prog 196 #[.int .u32 n] w fun e w'=>e = .returned (.bool (tr (PrimeR n)))∧w'=w:=by
 go_enter Tryz.func196,Tryz.ntmps196
 by_cases h2:n=2
 ·subst h2;go_wp2;go_ret;rw [tr_pos (by simp [PrimeR])];exact ⟨rfl,rfl⟩
 by_cases h7:n=7
 ·subst h7;go_wp2;go_ret;rw [tr_pos (by simp [PrimeR])];exact ⟨rfl,rfl⟩
 by_cases h61:n=61
 ·subst h61;go_wp2;go_ret;rw [tr_pos (by simp [PrimeR])];exact ⟨rfl,rfl⟩
 by_cases ho:2<n∧n % 2=1∧0<n % 7∧0<n % 61
 ·obtain ⟨ho1,ho2,ho3,ho4⟩:=ho
  obtain ⟨u,k,hk,hu⟩:=odd_part ho1 hn2
  have HK:=Lib.hid hk
  clear hk
  have hp:PrimeR n↔Strong 2 n u k∧Strong 7 n u k∧Strong 61 n u k:=by
   constructor
   ·rintro (h | h | h | ⟨_,_,_,_,v,j,e,hv,s2,s7,s61⟩)
    ·exact absurd h h2
    ·exact absurd h h7
    ·exact absurd h h61
    ·exact ⟨s2.same hv hu e HK.out,s7.same hv hu e HK.out,s61.same hv hu e HK.out⟩
   ·rintro ⟨s2,s7,s61⟩
    exact .inr (.inr (.inr ⟨ho1,ho2,ho3,ho4,u,k,HK.out,hu,s2,s7,s61⟩))
  have HP:=Lib.hid hp
  clear hp
  go_wp2_with fail
  ·exfalso
   rename_i hh
   simp at hh
   omega
  refine (rstrong_walk 2 n u k _ (by omega) (by omega) (by omega) hu HK.out).mono ?_
  rintro e w1 ⟨rfl,rfl⟩
  generalize h2:tr (Strong 2 n u k)=b2
  have H2:=Lib.hid h2
  clear h2
  cases b2
  ·go_wp2
   go_ret
   rw [tr_neg fun h=>by have:=H2.out;rw [tr_pos (HP.out.1 h).1] at this;exact absurd this (by simp)]
   exact ⟨rfl,rfl⟩
  go_wp2_with fail
  refine (rstrong_walk 7 n u k _ (by omega) (by omega) (by omega) hu HK.out).mono ?_
  rintro e w1 ⟨rfl,rfl⟩
  generalize h7:tr (Strong 7 n u k)=b7
  have H7:=Lib.hid h7
  clear h7
  cases b7
  ·go_wp2
   go_ret
   rw [tr_neg fun h=>by have:=H7.out;rw [tr_pos (HP.out.1 h).2.1] at this;exact absurd this (by simp)]
   exact ⟨rfl,rfl⟩
  go_wp2_with fail
  refine (rstrong_walk 61 n u k _ (by omega) (by omega) (by omega) hu HK.out).mono ?_
  rintro e w1 ⟨rfl,rfl⟩
  generalize h61:tr (Strong 61 n u k)=b61
  go_wp2
  go_ret
  have t:∀ p:Prop,tr p=true→p:=fun p h=>@of_decide_eq_true p (Classical.propDecidable p) h
  rw [← h61,tr_iff (p:=PrimeR n) (q:=Strong 61 n u k) ⟨fun h=>(HP.out.1 h).2.2,fun h=>HP.out.2 ⟨t _ H2.out,t _ H7.out,h⟩⟩]
  exact ⟨rfl,rfl⟩
 ·have hf:¬ PrimeR n:=by
   rintro (h | h | h | ⟨a1,a2,a3,a4,_⟩)
   ·exact h2 h
   ·exact h7 h
   ·exact h61 h
   ·exact ho ⟨a1,a2,a3,a4⟩
  have HF:=Lib.hid hf
  clear hf
  rw [tr_neg HF.out]
  have q1:((n:Int) == 2)=false:=by simp;omega
  have q2:((n:Int) == 7)=false:=by simp;omega
  have q3:((n:Int) == 61)=false:=by simp;omega
  by_cases c1:2<n
  ·by_cases c2:n % 2=1
   ·by_cases c3:0<n % 7
    ·have c4:¬ 0<n % 61:=fun h=>ho ⟨c1,c2,c3,h⟩
     clear ho
     go_wp2
     go_ret
     exact ⟨rfl,rfl⟩
    ·clear ho
     go_wp2
     go_ret
     exact ⟨rfl,rfl⟩
   ·clear ho
    go_wp2
    go_ret
    exact ⟨rfl,rfl⟩
  ·clear ho
   go_wp2
   go_ret
   exact ⟨rfl,rfl⟩
end Go.Proofs.YtdcenblblimkfaaGreat
