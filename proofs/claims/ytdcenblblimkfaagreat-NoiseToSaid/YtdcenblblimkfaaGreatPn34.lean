/- The reference's noise: Fresh and Sealed. (Printed by mkr15.py.)
The reference's noise: Add, Times, Mul, Divide. (Printed by mkr15.py.)
The reference's noise: Down, To, Fits. (Printed by mkr15.py.)
The reference's noise: Extra. (Printed by mkr15.py.)
Equal wide integers.
noise and its reference make the same.
obscuralaw15: awake.
The law NoiseSums. (Printed by mkl15.py.)
The law NoiseFresh. (Printed by mkl15.py.) -/
import Derived.Test.YtdcenblblimkfaaGreatPn33
import Derived.Test.YtdcenblblimkfaaGreatPn31
import Derived.Tactics
import Derived.Tactics2
import Derived.StillTactics
import Derived.Laws.Small
import Derived.Laws.StructEq
import Derived.KernelRfl
set_option linter.unusedSimpArgs false
set_option linter.unusedVariables false
set_option linter.unnecessarySimpa false
set_option linter.unusedSectionVars false
namespace Go.Proofs.YtdcenblblimkfaaGreat
open Go.RowKit
instance fi102:FI Tryz.prog 102 Tryz.f102:=⟨Tryz.func102,Tryz.call102⟩
instance fi104:FI Tryz.prog 104 Tryz.f104:=⟨Tryz.func104,Tryz.call104⟩
instance fi24:FI Tryz.prog 24 Tryz.f24:=⟨Tryz.func24,Tryz.call24⟩
instance fi26:FI Tryz.prog 26 Tryz.f26:=⟨Tryz.func26,Tryz.call26⟩
set_option maxRecDepth 20000
set_option maxHeartbeats 8000000
theorem r15BareFresh_den (p:PD) (ex:Nat) (most:Int) (hp:PFit p) (h:freshOk p most ex=true):Den Tryz.prog 102 [.agg (parL true p),.val (.int .i64 most),.val (.int .i64 (ex:Int))] (zN (freshV p ex most)):=by
 have hF:=freshOk_f h
 obtain ⟨f1,f2,f3,f4,f5,f6⟩:=hF.fz
 have hg:=hF.good
 obtain ⟨q1,q2,q3,q4,q5⟩:=good_plain hg
 have g:=good_gn hg
 have a1:=hF.ex2
 have a2:=hF.ex1
 have q6:=q5 ex (by omega)
 have q7:=q5 p.power.toNat (by omega)
 have g1:=g.weight1
 have g2:=g.weight2
 have g3:=g.err
 have m1:=hF.m1
 have m2:=hF.m2
 have hN:=r15numbers_den p ex _ _ hp hg a1 rfl rfl
 unfold freshV at *
 generalize p.prime ^ ex=sm at *
 generalize p.prime ^ p.power.toNat=tm at *
 clear q5
 have ho:=r15of1_den most (by omega) (by omega)
 have p1:=r15of_den 3 (z3 (tm:Int) p.weight (p.err:Int)) (by omega) (fun j=>z3_all (P:=fun z=> -9223372036854775808≤z∧z≤9223372036854775807) (by omega) (by omega) (by omega) j)
 have p2:=r15of_den 3 (z3 (sm:Int) (p.weight+1) (p.err:Int)) (by omega) (fun j=>z3_all (P:=fun z=> -9223372036854775808≤z∧z≤9223372036854775807) (by omega) (by omega) (by omega) j)
 have c1:0≤prZ (z3 (tm:Int) p.weight (p.err:Int)) 3:=prZ_pos 3 (fun j _=>z3_all (P:=fun z=>0≤z) (by omega) (by omega) (by omega) j)
 have c2:0≤prZ (z3 (sm:Int) (p.weight+1) (p.err:Int)) 3:=prZ_pos 3 (fun j _=>z3_all (P:=fun z=>0≤z) (by omega) (by omega) (by omega) j)
 generalize prZ (z3 (tm:Int) p.weight (p.err:Int)) 3=A at *
 generalize prZ (z3 (sm:Int) (p.weight+1) (p.err:Int)) 3=B at *
 have hs1:=r15plus_den A B (f2.le (by omega)) (f2.le (by omega)) f2
 have hs2:=r15plus_den most (A+B) (f1.le (by omega)) f2 f1
 refine den_intro (fn:=Tryz.f102) rfl rfl rfl rfl rfl ?_
 refine go ?_
 refine r_call hN ?_
 refine gor ?_
 refine goc ?_
 refine c_reg ?_
 refine go1 ?_
 refine r_bslF (iD (fun _=>most)) ?_ (hf:=z1_ok _)
 refine r_eqH (.fz false 1 1 (iD (fun _=>most))) rfl ?_
 refine r_call ho ?_
 refine go1 ?_
 refine go1 ?_
 refine go1 ?_
 refine r_bslF (iD (z3 (tm:Int) p.weight (p.err:Int))) ?_ (hf:=z3_ok _ _ _ )
 refine r_eqH (.fz false 3 1 (iD (z3 (tm:Int) p.weight (p.err:Int)))) rfl ?_
 refine r_call p1 ?_
 refine go1 ?_
 refine go1 ?_
 refine go1 ?_
 refine go1 ?_
 refine r_bslF (iD (z3 (sm:Int) (p.weight+1) (p.err:Int))) ?_ (hf:=z3_ok _ _ _ )
 refine r_eqH (.fz false 3 1 (iD (z3 (sm:Int) (p.weight+1) (p.err:Int)))) rfl ?_
 refine r_call p2 ?_
 refine go ?_
 refine r_call hs1 ?_
 refine go ?_
 refine r_call hs2 ?_
 refine go ?_
 refine fin ?_
 exact cv
theorem r15BareSealed_den (p:PD) (ex:Nat) (most:Int) (hp:PFit p) (h:freshOk p most ex=true):Den Tryz.prog 104 [.agg (parL true p),.val (.int .i64 most),.val (.int .i64 (ex:Int))] (zN (sealedV p ex most)):=by
 have hF:=freshOk_f h
 obtain ⟨f1,f2,f3,f4,f5,f6⟩:=hF.fz
 have hg:=hF.good
 obtain ⟨q1,q2,q3,q4,q5⟩:=good_plain hg
 have g:=good_gn hg
 have a1:=hF.ex2
 have a2:=hF.ex1
 have q6:=q5 ex (by omega)
 have q7:=q5 p.power.toNat (by omega)
 have g1:=g.weight1
 have g2:=g.weight2
 have g3:=g.err
 have m1:=hF.m1
 have m2:=hF.m2
 have hN:=r15numbers_den p ex _ _ hp hg a1 rfl rfl
 unfold sealedV at *
 generalize p.prime ^ ex=sm at *
 generalize p.prime ^ p.power.toNat=tm at *
 clear q5
 have ho:=r15of1_den most (by omega) (by omega)
 have p1:=r15of_den 2 (z2 (sm:Int) (p.err:Int)) (by omega) (fun j=>z2_all (P:=fun z=> -9223372036854775808≤z∧z≤9223372036854775807) (by omega) (by omega) j)
 generalize prZ (z2 (sm:Int) (p.err:Int)) 2=A at *
 have hs2:=r15plus_den most A (f4.le (by omega)) f5 f4
 refine den_intro (fn:=Tryz.f104) rfl rfl rfl rfl rfl ?_
 refine go ?_
 refine r_call hN ?_
 refine gor ?_
 refine goc ?_
 refine c_reg ?_
 refine go1 ?_
 refine r_bslF (iD (fun _=>most)) ?_ (hf:=z1_ok _)
 refine r_eqH (.fz false 1 1 (iD (fun _=>most))) rfl ?_
 refine r_call ho ?_
 refine go1 ?_
 refine go1 ?_
 refine r_bslF (iD (z2 (sm:Int) (p.err:Int))) ?_ (hf:=z2_ok _ _ )
 refine r_eqH (.fz false 2 1 (iD (z2 (sm:Int) (p.err:Int)))) rfl ?_
 refine r_call p1 ?_
 refine go ?_
 refine r_call hs2 ?_
 refine go ?_
 refine fin ?_
 exact cv
theorem freshOk_st {p:PD} {ex:Nat} {most:Int} (h:freshOk p most ex=true):stB p 1 ex=true∧(decide (0≤most) && decide (most≤((p.prime ^ ex - 1) / 2:Nat)))=true:=by
 have hF:=freshOk_f h
 have g:=good_gn hF.good
 refine ⟨?_,by rw [decide_eq_true hF.m1,decide_eq_true hF.m2];rfl⟩
 unfold stB
 rw [errI_0,hF.good,decide_eq_true (show (1:Int)≤1 by omega),decide_eq_true (show (1:Int)≤p.chain.length by have:=g.len1;omega),decide_eq_true (show (1:Int)≤ex by have:=hF.ex1;omega),decide_eq_true hF.ex2];rfl
theorem freshOk_no {p:PD} {ex most:Int} (h:freshOk p most ex=false) (hs:stB p 1 ex=true):goodB p=true∧∃ x:Nat,ex=(x:Int)∧(x:Int)≤p.power∧(decide (0≤most) && decide (most≤((p.prime ^ x - 1) / 2:Nat)))=false:=by
 unfold stB at hs
 simp only [Bool.and_eq_true,decide_eq_true_eq] at hs
 obtain ⟨⟨⟨⟨s1,s2⟩,s3⟩,s4⟩,s5⟩:=hs
 have hg:goodB p=true:=(errI_0 (goodB p)).symm.trans (decide_eq_true s1)
 obtain ⟨x,rfl⟩:∃ x:Nat,ex=(x:Int):=⟨ex.toNat,by omega⟩
 refine ⟨hg,x,rfl,s5,?_⟩
 cases q:(decide (0≤most) && decide (most≤((p.prime ^ x - 1) / 2:Nat))) with
 | false=>rfl
 | true=>
  rw [Bool.and_eq_true] at q
  have a:=of_decide_eq_true q.1
  have b:=of_decide_eq_true q.2
  unfold freshOk at h
  rw [Int.toNat_natCast] at h
  have e1:okT [.v p,tW (x:Int) (1) (p.power)]=true:=by
   show (goodB p && ((tW (x:Int) 1 p.power).ok && true))=true
   rw [hg,tW_ok s4 s5];rfl
  have e2:okT [tW most (0) (((p.prime ^ x - 1) / 2:Nat))]=true:=by
   show ((tW most 0 _).ok && true)=true
   rw [tW_ok a b];rfl
  rw [e1,e2] at h
  cases h
theorem r15Fresh_ok (p:PD) (ex:Nat) (most:Int) (hp:PFit p) (h:freshOk p most ex=true):Den Tryz.prog 24 [.agg (parL true p),.val (.int .i64 most),.val (.int .i64 (ex:Int))] (.tup [zN (freshV p ex most),.val (.int .i64 0)]):=by
 have hF:=freshOk_f h
 have hb:=r15BareFresh_den p ex most hp h
 obtain ⟨h1,h2⟩:=freshOk_st h
 have hs:=r14State_den p hp 1 ex
 rw [h1] at hs
 have hz:=r15size_den p most ex _ hF.good hF.ex2 rfl
 rw [h2] at hz
 generalize freshV p ex most=V at *
 refine den_intro (fn:=Tryz.f24) rfl rfl rfl rfl rfl ?_
 refine go ?_
 refine r_call hs ?_
 refine go ?_
 refine g_callM (hl:=fun _=>r_call hz (run_fin rfl)) (h:=?_)
 refine go ?_
 refine c_no ?_
 refine go ?_
 refine r_call hb ?_
 refine go ?_
 refine fin ?_
 exact cv
theorem r15Fresh_bad (p:PD) (most ex:Int) (hp:PFit p) (h:freshOk p most ex=false):Den Tryz.prog 24 [.agg (parL true p),.val (.int .i64 most),.val (.int .i64 ex)] (.tup [wZ,.val (.int .i64 2)]):=by
 have hs:=r14State_den p hp 1 ex
 cases q:stB p 1 ex with
 | false=>
  rw [q] at hs
  refine den_intro (fn:=Tryz.f24) rfl rfl rfl rfl rfl ?_
  refine go ?_
  refine r_call hs ?_
  refine go ?_
  refine fin ?_
  exact cv
 | true=>
  obtain ⟨hg,x,rfl,h1,h2⟩:=freshOk_no h q
  rw [q] at hs
  have hz:=r15size_den p most x _ hg h1 rfl
  rw [h2] at hz
  refine den_intro (fn:=Tryz.f24) rfl rfl rfl rfl rfl ?_
  refine go ?_
  refine r_call hs ?_
  refine go ?_
  refine g_callM (hl:=fun _=>r_call hz (run_fin rfl)) (h:=?_)
  refine go ?_
  refine c_yes ?_
  refine go ?_
  refine fin ?_
  exact cv
 
theorem r15Sealed_ok (p:PD) (ex:Nat) (most:Int) (hp:PFit p) (h:freshOk p most ex=true):Den Tryz.prog 26 [.agg (parL true p),.val (.int .i64 most),.val (.int .i64 (ex:Int))] (.tup [zN (sealedV p ex most),.val (.int .i64 0)]):=by
 have hF:=freshOk_f h
 have hb:=r15BareSealed_den p ex most hp h
 obtain ⟨h1,h2⟩:=freshOk_st h
 have hs:=r14State_den p hp 1 ex
 rw [h1] at hs
 have hz:=r15size_den p most ex _ hF.good hF.ex2 rfl
 rw [h2] at hz
 generalize sealedV p ex most=V at *
 refine den_intro (fn:=Tryz.f26) rfl rfl rfl rfl rfl ?_
 refine go ?_
 refine r_call hs ?_
 refine go ?_
 refine g_callM (hl:=fun _=>r_call hz (run_fin rfl)) (h:=?_)
 refine go ?_
 refine c_no ?_
 refine go ?_
 refine r_call hb ?_
 refine go ?_
 refine fin ?_
 exact cv
theorem r15Sealed_bad (p:PD) (most ex:Int) (hp:PFit p) (h:freshOk p most ex=false):Den Tryz.prog 26 [.agg (parL true p),.val (.int .i64 most),.val (.int .i64 ex)] (.tup [wZ,.val (.int .i64 2)]):=by
 have hs:=r14State_den p hp 1 ex
 cases q:stB p 1 ex with
 | false=>
  rw [q] at hs
  refine den_intro (fn:=Tryz.f26) rfl rfl rfl rfl rfl ?_
  refine go ?_
  refine r_call hs ?_
  refine go ?_
  refine fin ?_
  exact cv
 | true=>
  obtain ⟨hg,x,rfl,h1,h2⟩:=freshOk_no h q
  rw [q] at hs
  have hz:=r15size_den p most x _ hg h1 rfl
  rw [h2] at hz
  refine den_intro (fn:=Tryz.f26) rfl rfl rfl rfl rfl ?_
  refine go ?_
  refine r_call hs ?_
  refine go ?_
  refine g_callM (hl:=fun _=>r_call hz (run_fin rfl)) (h:=?_)
  refine go ?_
  refine c_yes ?_
  refine go ?_
  refine fin ?_
  exact cv

instance fi45:FI Tryz.prog 45 Tryz.f45:=⟨Tryz.func45,Tryz.call45⟩
instance fi47:FI Tryz.prog 47 Tryz.f47:=⟨Tryz.func47,Tryz.call47⟩
instance fi127:FI Tryz.prog 127 Tryz.f127:=⟨Tryz.func127,Tryz.call127⟩
instance fi49:FI Tryz.prog 49 Tryz.f49:=⟨Tryz.func49,Tryz.call49⟩
instance fi50:FI Tryz.prog 50 Tryz.f50:=⟨Tryz.func50,Tryz.call50⟩
theorem r15b_ok {z:Int} (hz:Fz z) (h0:0≤z):Den Tryz.prog 91 [zN z] (.val (.bool true)):=by
 have:=r15Bound_den (decide (z<0)) (strN z.natAbs)
 rw [hz.ok,show (true && !decide (z<0))=true by rw [decide_eq_false (by omega:¬ z<0)];rfl] at this
 exact this
theorem r15b_is {b:Bool} {s:ByteArray} (v:Bool) (h:(Ts.b b s).ok=v):Den Tryz.prog 91 [wS b s] (.val (.bool v)):=by
 have:=r15Bound_den b s
 rw [show (vldB b s && !b)=v from h] at this
 exact this
theorem r15Add_Z (a b:Int) (ha:Fz a) (hb:Fz b) (ha0:0≤a) (hb0:0≤b):Den Tryz.prog 45 [zN a,zN b] (resZ (a+b)):=by
 have h1:=r2Add_den a b ha hb
 have h2:=r15b_ok ha ha0
 have h3:=r15b_ok hb hb0
 obtain ⟨rb,rs,re,hr⟩:=resZ_form (a+b)
 rw [hr] at h1 ⊢
 refine den_intro (fn:=Tryz.f45) rfl rfl rfl rfl rfl ?_
 refine go ?_
 refine r_call h2 ?_
 refine go ?_
 refine g_callM (hl:=fun _=>r_call h3 (run_fin rfl)) (h:=?_)
 refine go ?_
 refine c_no ?_
 refine go ?_
 refine r_call h1 ?_
 refine go ?_
 refine fin ?_
 exact cv
theorem r15Add_bad (na nb:Bool) (sa sb:ByteArray) (h:((Ts.b na sa).ok && (Ts.b nb sb).ok)=false):Den Tryz.prog 45 [wS na sa,wS nb sb] (.tup [wZ,.val (.int .i64 2)]):=by
 cases q:(Ts.b na sa).ok with
 | false=>
  have h2:=r15b_is _ q
  refine den_intro (fn:=Tryz.f45) rfl rfl rfl rfl rfl ?_
  refine go ?_
  refine r_call h2 ?_
  refine go ?_
  refine fin ?_
  exact cv
 | true=>
  rw [q,Bool.true_and] at h
  have h2:=r15b_is _ q
  have h3:=r15b_is _ h
  refine den_intro (fn:=Tryz.f45) rfl rfl rfl rfl rfl ?_
  refine go ?_
  refine r_call h2 ?_
  refine go ?_
  refine g_callM (hl:=fun _=>r_call h3 (run_fin rfl)) (h:=?_)
  refine go ?_
  refine c_yes ?_
  refine go ?_
  refine fin ?_
  exact cv
theorem r15Times_Z (a n:Int) (ha:Fz a) (ha0:0≤a) (h1 : -9223372036854775808≤n) (h2:n≤9223372036854775807):Den Tryz.prog 47 [zN a,.val (.int .i64 n)] (resZ (a*n.natAbs)):=by
 have hb:=r15b_ok ha ha0
 have hn:=Fz.i64 h1 h2
 have hna:Fz (n.natAbs:Int):=by unfold Fz at hn ⊢;simpa using hn
 have ho:=r2Of_den n h1 h2
 have hA:=r2Abs_den n hn
 have hm:=r2Mul_den a n.natAbs ha hna
 obtain ⟨rb,rs,re,hr⟩:=resZ_form (a*n.natAbs)
 rw [hr] at hm ⊢
 refine den_intro (fn:=Tryz.f47) rfl rfl rfl rfl rfl ?_
 refine go ?_
 refine r_call hb ?_
 refine go ?_
 refine c_no ?_
 refine go ?_
 refine r_call ho ?_
 refine go ?_
 refine r_call hA ?_
 refine go ?_
 refine r_call hm ?_
 refine go ?_
 refine fin ?_
 exact cv
theorem r15Times_bad (na:Bool) (sa:ByteArray) (n:Int) (h:(Ts.b na sa).ok=false):Den Tryz.prog 47 [wS na sa,.val (.int .i64 n)] (.tup [wZ,.val (.int .i64 2)]):=by
 have hb:=r15b_is _ h
 refine den_intro (fn:=Tryz.f47) rfl rfl rfl rfl rfl ?_
 refine go ?_
 refine r_call hb ?_
 refine go ?_
 refine c_yes ?_
 refine go ?_
 refine fin ?_
 exact cv
theorem r15BareMul_Z (p:PD) (a b:Int) (hp:PFit p) (hn:1≤p.n) (ha:Fz a) (hb:Fz b) (ha0:0≤a) (hb0:0≤b):Den Tryz.prog 127 [.agg (parL true p),zN a,zN b] (resZ (a*b*p.n)):=by
 have hm:=r2Mul_den a b ha hb
 have ho:=r15of1_den p.n hp.n1 hp.n2
 have hab:0≤a*b:=Int.mul_nonneg ha0 hb0
 by_cases hF:Fz (a*b)
 ·have hm2:=r2Mul_den (a*b) p.n hF (Fz.i64 hp.n1 hp.n2)
  rw [resZ_ok hF] at hm
  obtain ⟨rb,rs,re,hr⟩:=resZ_form (a*b*p.n)
  rw [hr] at hm2 ⊢
  generalize a*b=c at *
  refine den_intro (fn:=Tryz.f127) rfl rfl rfl rfl rfl ?_
  refine go ?_
  refine r_call hm ?_
  refine gor ?_
  refine goc ?_
  refine c_reg ?_
  refine gor ?_
  refine goc ?_
  refine c_no ?_
  refine goc ?_
  refine c_reg ?_
  refine go1 ?_
  refine go1 ?_
  refine go1 ?_
  refine r_bslF (iD (fun _=>p.n)) ?_ (hf:=z1_ok _)
  refine r_eqH (.fz false 1 1 (iD (fun _=>p.n))) rfl ?_
  refine r_call ho ?_
  refine go ?_
  refine r_call hm2 ?_
  refine go ?_
  refine fin ?_
  exact cv
 ·rw [resZ_no hF] at hm
  rw [resZ_no (fun h=>hF (Fz.mulL hab hn h))]
  refine den_intro (fn:=Tryz.f127) rfl rfl rfl rfl rfl ?_
  refine go ?_
  refine r_call hm ?_
  refine go ?_
  refine fin ?_
  exact cv
theorem r15Mul_Z (p:PD) (a b:Int) (hp:PFit p) (hg:goodB p=true) (ha:Fz a) (hb:Fz b) (ha0:0≤a) (hb0:0≤b):Den Tryz.prog 49 [.agg (parL true p),zN a,zN b] (resZ (a*b*p.n)):=by
 have hc:=r12check_den p hp
 rw [hg] at hc
 have h1:=r15BareMul_Z p a b hp (by have:=(good_gn hg).n1;omega) ha hb ha0 hb0
 have h2:=r15b_ok ha ha0
 have h3:=r15b_ok hb hb0
 obtain ⟨rb,rs,re,hr⟩:=resZ_form (a*b*p.n)
 rw [hr] at h1 ⊢
 refine den_intro (fn:=Tryz.f49) rfl rfl rfl rfl rfl ?_
 refine go ?_
 refine r_call hc ?_
 refine go ?_
 refine g_callM (hl:=fun _=>r_call h2 (run_fin rfl)) (h:=?_)
 refine go ?_
 refine g_callM (hl:=fun _=>r_call h3 (run_fin rfl)) (h:=?_)
 refine go ?_
 refine c_no ?_
 refine go ?_
 refine r_call h1 ?_
 refine go ?_
 refine fin ?_
 exact cv
theorem r15Mul_bad (p:PD) (na nb:Bool) (sa sb:ByteArray) (hp:PFit p) (h:(goodB p && ((Ts.b na sa).ok && (Ts.b nb sb).ok))=false):Den Tryz.prog 49 [.agg (parL true p),wS na sa,wS nb sb] (.tup [wZ,.val (.int .i64 2)]):=by
 have hc:=r12check_den p hp
 have h2:=r15b_is _ (rfl:(Ts.b na sa).ok=_)
 have h3:=r15b_is _ (rfl:(Ts.b nb sb).ok=_)
 cases q:goodB p with
 | false=>
  rw [q] at hc
  refine den_intro (fn:=Tryz.f49) rfl rfl rfl rfl rfl ?_
  refine go ?_
  refine r_call hc ?_
  refine go ?_
  refine fin ?_
  exact cv
 | true=>
  rw [q] at hc h
  rw [Bool.true_and] at h
  generalize (Ts.b na sa).ok=u at *
  generalize (Ts.b nb sb).ok=v at *
  refine den_intro (fn:=Tryz.f49) rfl rfl rfl rfl rfl ?_
  refine go ?_
  refine r_call hc ?_
  refine go ?_
  refine g_callM (hl:=fun _=>r_call h2 (run_fin rfl)) (h:=?_)
  refine go ?_
  refine g_callM (hl:=fun _=>r_call h3 (run_fin rfl)) (h:=?_)
  refine go ?_
  refine c_yes (hb:=by cases u<;>cases v<;>first | rfl | cases h) ?_
  refine go ?_
  refine fin ?_
  exact cv
theorem r15Divide_Z (p:PD) (a:Int) (hp:PFit p) (hg:goodB p=true) (ha:Fz a) (ha0:0≤a):Den Tryz.prog 50 [.agg (parL true p),zN a] (.tup [zN (a / p.prime),.val (.int .i64 0)]):=by
 have hc:=r12check_den p hp
 rw [hg] at hc
 have hpp:=hp.prime
 have h2:=r15b_ok ha ha0
 have ho0:=r15of1_den 0 (by omega) (by omega)
 have hop:=r15of1_den (p.prime:Int) (by omega) (by omega)
 have hq:=(good_plain hg).1
 have hb0:(0:Int)<p.prime:=by omega
 have e1:qtV p.prime 1 a 0=a / p.prime:=by rw [qtV_eq hb0];congr 1;omega
 have m1:a % (p.prime:Int)≤a:=by
  have:=Int.mul_ediv_add_emod a p.prime
  have:=Int.mul_nonneg (Int.le_of_lt hb0) (Int.ediv_nonneg ha0 (Int.le_of_lt hb0))
  omega
 have m0:0≤a % (p.prime:Int):=Int.emod_nonneg _ (by omega)
 have m2:a / (p.prime:Int)≤a:=Int.ediv_le_self _ ha0
 have m3:0≤a / (p.prime:Int):=Int.ediv_nonneg ha0 (Int.le_of_lt hb0)
 have h1:=r15quotient_den p.prime 1 a 0 hb0 (Fz.i64 (by omega) (by omega)) ha0 ha (by omega) (by omega) (by omega) (ha.le (by omega))
 rw [e1,resZ_ok (ha.le (by omega))] at h1
 generalize a / (p.prime:Int)=q at *
 refine den_intro (fn:=Tryz.f50) rfl rfl rfl rfl rfl ?_
 refine go ?_
 refine r_call hc ?_
 refine go ?_
 refine g_callM (hl:=fun _=>r_call h2 (run_fin rfl)) (h:=?_)
 refine gor ?_
 refine goc ?_
 refine c_no ?_
 refine goc ?_
 refine c_reg ?_
 refine go1 ?_
 refine r_bslF (iD (fun _=>0)) ?_ (hf:=z1_ok _)
 refine r_eqH (.fz false 1 1 (iD (fun _=>0))) rfl ?_
 refine r_call ho0 ?_
 refine go1 ?_
 refine go1 ?_
 refine go1 ?_
 refine r_bslF (iD (fun _=>(p.prime:Int))) ?_ (hf:=z1_ok _)
 refine r_eqH (.fz false 1 1 (iD (fun _=>(p.prime:Int)))) rfl ?_
 refine r_call hop ?_
 refine go ?_
 refine r_call h1 ?_
 refine go ?_
 refine fin ?_
 exact cv
theorem r15Divide_bad (p:PD) (na:Bool) (sa:ByteArray) (hp:PFit p) (h:(goodB p && (Ts.b na sa).ok)=false):Den Tryz.prog 50 [.agg (parL true p),wS na sa] (.tup [wZ,.val (.int .i64 2)]):=by
 have hc:=r12check_den p hp
 cases q:goodB p with
 | false=>
  rw [q] at hc
  refine den_intro (fn:=Tryz.f50) rfl rfl rfl rfl rfl ?_
  refine go ?_
  refine r_call hc ?_
  refine go ?_
  refine fin ?_
  exact cv
 | true=>
  rw [q] at hc h
  rw [Bool.true_and] at h
  have h2:=r15b_is _ h
  refine den_intro (fn:=Tryz.f50) rfl rfl rfl rfl rfl ?_
  refine go ?_
  refine r_call hc ?_
  refine go ?_
  refine g_callM (hl:=fun _=>r_call h2 (run_fin rfl)) (h:=?_)
  refine go ?_
  refine c_yes ?_
  refine go ?_
  refine fin ?_
  exact cv

instance fi114:FI Tryz.prog 114 Tryz.f114:=⟨Tryz.func114,Tryz.call114⟩
instance fi38:FI Tryz.prog 38 Tryz.f38:=⟨Tryz.func38,Tryz.call38⟩
instance fi22:FI Tryz.prog 22 Tryz.f22:=⟨Tryz.func22,Tryz.call22⟩
instance fi117:FI Tryz.prog 117 Tryz.f117:=⟨Tryz.func117,Tryz.call117⟩
instance fi40:FI Tryz.prog 40 Tryz.f40:=⟨Tryz.func40,Tryz.call40⟩
theorem r15BareDown_Z (p:PD) (lv ex sm tm q:Nat) (z S:Int) (hp:PFit p) (h:DownF p lv ex z) (hsm:p.prime ^ ex=sm) (htm:p.prime ^ p.power.toNat=tm) (hq:p.chain.getD (lv - 1) 0=q) (hS:prZ (z3 (sm:Int) (p.weight+1) (((q - 1) / 2:Nat):Int)) 3=S) :
  Den Tryz.prog 114 [.agg (parL true p),zN z,.val (.int .i64 (lv:Int)),.val (.int .i64 (ex:Int))] (resZ (qtV q 1 z S)):=by
 obtain ⟨hg,l1,l2,e1,e2,hz0,hz⟩:=h
 obtain ⟨q1,q2,q3,q4,q5⟩:=good_plain hg
 have q6:=q5 ex (by omega)
 rw [hsm] at q6
 have hgn:=good_gn hg
 have hch:=hgn.chain (lv - 1) (by omega)
 rw [hq] at hch
 have hN:=r15numbers_den p ex sm tm hp hg e2 hsm htm
 have hll:=hgn.len2
 have hwg:=hgn.weight2
 have hwg1:=hgn.weight1
 have hS0:0≤S:=by rw [← hS];exact prZ_pos 3 (fun j _=>z3_all (P:=fun z=>0≤z) (by omega) (by omega) (by omega) j)
 have hSb:Bb 24 S:=by rw [← hS];exact Bb.prZ (k:=8) 3 (fun j _=>z3_all (P:=Bb 8) (Bb.i64 (by omega) (by omega)) (Bb.i64 (by omega) (by omega)) (Bb.i64 (by omega) (by omega)) j)
 have hpr:=r15of_den 3 (z3 (sm:Int) (p.weight+1) (((q - 1) / 2:Nat):Int)) (by omega) (fun j=>z3_all (P:=fun z=> -9223372036854775808≤z∧z≤9223372036854775807) (by omega) (by omega) (by omega) j)
 rw [hS] at hpr
 have ho:=r15of1_den (q:Int) (by omega) (by omega)
 have hqt:=r15quotient_den (q:Int) 1 z S (by omega) (Fz.i64 (by omega) (by omega)) hz0 hz (by omega) (by omega) hS0 (by
  rw [Int.mul_one]
  exact (hSb.add ((Bb.mod (k:=8) (Bb.i64 (by omega) (by omega)) (by omega)).mono (by omega))).fz (by omega))
 clear hsm htm q5
 obtain ⟨rb,rs,re,hr⟩:=resZ_form (qtV q 1 z S)
 rw [hr] at hqt ⊢
 refine den_intro (fn:=Tryz.f114) rfl rfl rfl rfl rfl ?_
 refine go ?_
 refine r_call hN ?_
 refine gor ?_
 refine goc ?_
 refine c_reg ?_
 refine gor ?_
 rw [hq]
 refine goc ?_
 refine c_reg ?_
 refine go1 ?_
 refine go1 ?_
 refine go1 ?_
 refine go1 ?_
 refine go1 ?_
 refine go1 ?_
 refine go1 ?_
 refine r_bslF (iD (z3 (sm:Int) (p.weight+1) (((q - 1) / 2:Nat):Int))) ?_ (hf:=z3_ok _ _ _ )
 refine r_eqH (.fz false 3 1 (iD (z3 (sm:Int) (p.weight+1) (((q - 1) / 2:Nat):Int)))) rfl ?_
 refine r_call hpr ?_
 refine go1 ?_
 refine r_bslF (iD (fun _=>(q:Int))) ?_ (hf:=z1_ok _)
 refine r_eqH (.fz false 1 1 (iD (fun _=>(q:Int)))) rfl ?_
 refine r_call ho ?_
 refine go ?_
 refine r_call hqt ?_
 refine go ?_
 refine fin ?_
 exact cv
theorem stB_of {p:PD} {lv ex:Int} {v:Bool} (h:(goodB p && (decide (1≤lv) && decide (lv≤p.chain.length)) && (decide (1≤ex) && decide (ex≤p.power)))=v):stB p lv ex=v:=by
 unfold stB
 rw [errI_0,← h]
 simp only [Bool.and_assoc]
theorem r15Down_Z (p:PD) (lv ex:Nat) (z:Int) (hp:PFit p) (h:DownF p lv ex z):Den Tryz.prog 38 [.agg (parL true p),zN z,.val (.int .i64 (lv:Int)),.val (.int .i64 (ex:Int))] (resZ (qtV (downQ p lv) 1 z (downS p lv ex))):=by
 have hb:=r15BareDown_Z p lv ex _ _ _ z _ hp h rfl rfl rfl rfl
 have hs:=r14State_den p hp lv ex
 have hst:stB p lv ex=true:=stB_of (by
  have a:=h.l1
  have b:=h.l2
  have c:=h.e1
  have d:=h.e2
  rw [h.good,decide_eq_true (by omega),decide_eq_true (by omega),decide_eq_true (by omega),decide_eq_true (by omega)];rfl)
 rw [hst] at hs
 have h2:=r15b_ok h.zf h.z0
 have l1:=h.l1
 show Den _ _ _ (resZ (qtV (p.chain.getD (lv - 1) 0:Nat) 1 z (prZ (z3 ((p.prime ^ ex:Nat):Int) (p.weight+1) (((p.chain.getD (lv - 1) 0 - 1) / 2:Nat):Int)) 3)))
 obtain ⟨rb,rs,re,hr⟩:=resZ_form (qtV (p.chain.getD (lv - 1) 0:Nat) 1 z (prZ (z3 ((p.prime ^ ex:Nat):Int) (p.weight+1) (((p.chain.getD (lv - 1) 0 - 1) / 2:Nat):Int)) 3))
 rw [hr] at hb ⊢
 refine den_intro (fn:=Tryz.f38) rfl rfl rfl rfl rfl ?_
 refine go ?_
 refine r_call hs ?_
 refine go ?_
 refine g_callM (hl:=fun _=>r_call h2 (run_fin rfl)) (h:=?_)
 refine go ?_
 refine c_no (hb:=by simp;omega) ?_
 refine go ?_
 refine r_call hb ?_
 refine go ?_
 refine fin ?_
 exact cv
theorem stB_p {p:PD} {lv ex:Int} (hs:stB p lv ex=true):goodB p=true∧1≤lv∧lv≤p.chain.length∧1≤ex∧ex≤p.power:=by
 unfold stB at hs
 simp only [Bool.and_eq_true,decide_eq_true_eq] at hs
 obtain ⟨⟨⟨⟨s1,s2⟩,s3⟩,s4⟩,s5⟩:=hs
 exact ⟨(errI_0 (goodB p)).symm.trans (decide_eq_true s1),s2,s3,s4,s5⟩
theorem r15Down_bad (p:PD) (lv ex:Int) (na:Bool) (sa:ByteArray) (hp:PFit p) (h:okT [.v p,tW lv (2) (p.chain.length),tW ex (1) (p.power),.b na sa]=false):Den Tryz.prog 38 [.agg (parL true p),wS na sa,.val (.int .i64 lv),.val (.int .i64 ex)] (.tup [wZ,.val (.int .i64 2)]):=by
 have hs:=r14State_den p hp lv ex
 cases q:stB p lv ex with
 | false=>
  rw [q] at hs
  refine den_intro (fn:=Tryz.f38) rfl rfl rfl rfl rfl ?_
  refine go ?_
  refine r_call hs ?_
  refine go ?_
  refine fin ?_
  exact cv
 | true=>
  rw [q] at hs
  obtain ⟨hg,s1,s2,s3,s4⟩:=stB_p q
  have h2:=r15b_is _ (rfl:(Ts.b na sa).ok=_)
  have hb:(!true || decide (lv<2) || !(Ts.b na sa).ok)=true:=by
   have h:(goodB p && ((tW lv 2 p.chain.length).ok && ((tW ex 1 p.power).ok && ((Ts.b na sa).ok && true))))=false:=h
   rw [hg,tW_ok s3 s4,Bool.true_and,Bool.true_and,Bool.and_true] at h
   by_cases c:lv<2
   ·rw [decide_eq_true c];rfl
   ·rw [tW_ok (by omega) s2,Bool.true_and] at h
    rw [h];simp
  generalize (Ts.b na sa).ok=v at *
  refine den_intro (fn:=Tryz.f38) rfl rfl rfl rfl rfl ?_
  refine go ?_
  refine r_call hs ?_
  refine go ?_
  refine g_callM (hl:=fun _=>r_call h2 (run_fin rfl)) (h:=?_)
  refine go ?_
  refine fin ?_
  exact cv
theorem r15To_Z (p:PD) (lv ex:Nat) (z n:Int) (hp:PFit p) (h:LvF p lv ex z) (n1:3≤n) (n2:n≤2147483647) (n3:n.tmod ((p.prime ^ ex:Nat):Int)=1):Den Tryz.prog 22 [.agg (parL true p),zN z,.val (.int .i64 (lv:Int)),.val (.int .i64 (ex:Int)),.val (.int .i64 n)] (resZ (qtV (prZ (chZ p) lv) n z (toS p lv ex))):=by
 obtain ⟨hg,l1,l2,e1,e2,hz0,hz⟩:=h
 have hs:=r14State_den p hp lv ex
 rw [show stB p lv ex=true from stB_of (by rw [hg,decide_eq_true (by omega),decide_eq_true (by omega),decide_eq_true (by omega),decide_eq_true (by omega)];rfl)] at hs
 have h2:=r15b_ok hz hz0
 obtain ⟨q1,q2,q3,q4,q5⟩:=good_plain hg
 have q6:=q5 ex (by omega)
 have hgn:=good_gn hg
 have hN:=r15numbers_den p ex _ _ hp hg e2 rfl rfl
 have hll:=hgn.len2
 have hwg:=hgn.weight2
 have hwg1:=hgn.weight1
 unfold toS
 generalize p.prime ^ ex=sm at *
 generalize p.prime ^ p.power.toNat=tm at *
 clear q5
 obtain ⟨hQ1,hQb⟩:=pq_in hgn l2
 have hPr:=r15Product_den p lv hp hgn l2
 generalize prZ (chZ p) lv=Q at *
 have hA0:0≤prZ (z2 (sm:Int) (p.weight+1)) 2:=prZ_pos 2 (fun j _=>z2_all (P:=fun z=>0≤z) (by omega) (by omega) j)
 have hAb:Bb 16 (prZ (z2 (sm:Int) (p.weight+1)) 2):=Bb.prZ (k:=8) 2 (fun j _=>z2_all (P:=Bb 8) (Bb.i64 (by omega) (by omega)) (Bb.i64 (by omega) (by omega)) j)
 have hpr:=r15of_den 2 (z2 (sm:Int) (p.weight+1)) (by omega) (fun j=>z2_all (P:=fun z=> -9223372036854775808≤z∧z≤9223372036854775807) (by omega) (by omega) j)
 generalize prZ (z2 (sm:Int) (p.weight+1)) 2=A at *
 have hh:=r15half_den Q (hQb.fz (by omega))
 have hhb:Bb 96 (Q / 2):=hQb.div (by omega) (by omega)
 have hh0:0≤Q / 2:=by omega
 have hSb:Bb 112 (A*(Q / 2)):=(hAb.mul hhb).mono (by omega)
 have hS0:0≤A*(Q / 2):=Int.mul_nonneg hA0 hh0
 have hm:=r15times_den A (Q / 2) (hAb.fz (by omega)) (hhb.fz (by omega)) (hSb.fz (by omega))
 generalize A*(Q / 2)=S at *
 generalize Q / 2=Qh at *
 have hqt:=r15quotient_den Q n z S (by omega) (hQb.fz (by omega)) hz0 hz (by omega) (by omega) hS0 ((hSb.add (((Bb.mod hQb (by omega)).mul (Bb.i64 (by omega) (by omega))).mono (by omega))).fz (by omega))
 obtain ⟨rb,rs,re,hr⟩:=resZ_form (qtV Q n z S)
 rw [hr] at hqt ⊢
 refine den_intro (fn:=Tryz.f22) rfl rfl rfl rfl rfl ?_
 refine go ?_
 refine r_call hs ?_
 refine go ?_
 refine g_callM (hl:=fun _=>r_call h2 (run_fin rfl)) (h:=?_)
 refine go ?_
 refine c_no ?_
 refine go ?_
 refine r_call hN ?_
 refine go ?_
 refine c_no (hb:=by simp;omega) ?_
 refine go ?_
 refine r_call hPr ?_
 refine gor ?_
 refine goc ?_
 refine c_reg ?_
 refine go1 ?_
 refine go1 ?_
 refine go1 ?_
 refine go1 ?_
 refine go1 ?_
 refine r_bslF (iD (z2 (sm:Int) (p.weight+1))) ?_ (hf:=z2_ok _ _ )
 refine r_eqH (.fz false 2 1 (iD (z2 (sm:Int) (p.weight+1)))) rfl ?_
 refine r_call hpr ?_
 refine go ?_
 refine r_call hh ?_
 refine go ?_
 refine r_call hm ?_
 refine go ?_
 refine r_call hqt ?_
 refine go ?_
 refine fin ?_
 exact cv
theorem r15To_bad (p:PD) (lv ex n:Int) (na:Bool) (sa:ByteArray) (hp:PFit p) (h:okT [.v p,tW lv (1) (p.chain.length),tW ex (1) (p.power),.b na sa]=false):Den Tryz.prog 22 [.agg (parL true p),wS na sa,.val (.int .i64 lv),.val (.int .i64 ex),.val (.int .i64 n)] (.tup [wZ,.val (.int .i64 2)]):=by
 have hs:=r14State_den p hp lv ex
 cases q:stB p lv ex with
 | false=>
  rw [q] at hs
  refine den_intro (fn:=Tryz.f22) rfl rfl rfl rfl rfl ?_
  refine go ?_
  refine r_call hs ?_
  refine go ?_
  refine fin ?_
  exact cv
 | true=>
  rw [q] at hs
  obtain ⟨hg,s1,s2,s3,s4⟩:=stB_p q
  have h:(goodB p && ((tW lv 1 p.chain.length).ok && ((tW ex 1 p.power).ok && ((Ts.b na sa).ok && true))))=false:=h
  rw [hg,tW_ok s3 s4,tW_ok s1 s2,Bool.true_and,Bool.true_and,Bool.true_and,Bool.and_true] at h
  have h2:=r15b_is _ h
  refine den_intro (fn:=Tryz.f22) rfl rfl rfl rfl rfl ?_
  refine go ?_
  refine r_call hs ?_
  refine go ?_
  refine g_callM (hl:=fun _=>r_call h2 (run_fin rfl)) (h:=?_)
  refine go ?_
  refine c_yes ?_
  refine go ?_
  refine fin ?_
  exact cv
theorem r15To_bad2 (p:PD) (lv ex sm:Nat) (z n:Int) (hp:PFit p) (h:LvF p lv ex z) (hsm:p.prime ^ ex=sm) (hb:(decide (n<3) || decide (2147483647<n) || decide (n.tmod (sm:Int)≠1))=true):Den Tryz.prog 22 [.agg (parL true p),zN z,.val (.int .i64 (lv:Int)),.val (.int .i64 (ex:Int)),.val (.int .i64 n)] (.tup [wZ,.val (.int .i64 2)]):=by
 obtain ⟨hg,l1,l2,e1,e2,hz0,hz⟩:=h
 have hs:=r14State_den p hp lv ex
 rw [show stB p lv ex=true from stB_of (by rw [hg,decide_eq_true (by omega),decide_eq_true (by omega),decide_eq_true (by omega),decide_eq_true (by omega)];rfl)] at hs
 have h2:=r15b_ok hz hz0
 obtain ⟨q1,q2,q3,q4,q5⟩:=good_plain hg
 have q6:=q5 ex (by omega)
 have hN:=r15numbers_den p ex _ _ hp hg e2 hsm rfl
 rw [hsm] at q6
 generalize p.prime ^ p.power.toNat=tm at *
 clear hsm q5
 refine den_intro (fn:=Tryz.f22) rfl rfl rfl rfl rfl ?_
 refine go ?_
 refine r_call hs ?_
 refine go ?_
 refine g_callM (hl:=fun _=>r_call h2 (run_fin rfl)) (h:=?_)
 refine go ?_
 refine c_no ?_
 refine go ?_
 refine r_call hN ?_
 refine go ?_
 refine fin ?_
 exact cv
theorem r15BareFits_Z (p:PD) (lv:Nat) (z:Int) (hp:PFit p) (hg:goodB p=true) (l2:lv≤p.chain.length) (hz:Fz z):Den Tryz.prog 117 [.agg (parL true p),zN z,.val (.int .i64 (lv:Int))] (.val (.bool (decide (cmpZ z (prZ (chZ p) lv / 2)≤0)))):=by
 have hgn:=good_gn hg
 obtain ⟨hQ1,hQb⟩:=pq_in hgn l2
 have hPr:=r15Product_den p lv hp hgn l2
 generalize prZ (chZ p) lv=Q at *
 have hh:=r15half_den Q (hQb.fz (by omega))
 have hhb:Bb 96 (Q / 2):=hQb.div (by omega) (by omega)
 generalize Q / 2=Qh at *
 have hc:=r2Cmp_den z Qh hz (hhb.fz (by omega))
 generalize cmpZ z Qh=c at *
 refine den_intro (fn:=Tryz.f117) rfl rfl rfl rfl rfl ?_
 refine go ?_
 refine r_call hPr ?_
 refine go ?_
 refine r_call hh ?_
 refine go ?_
 refine r_call hc ?_
 refine go ?_
 refine fin ?_
 exact cv
theorem r15Fits_Z (p:PD) (lv:Nat) (z:Int) (hp:PFit p) (hk:okT [.v p,tW (lv:Int) (1) (p.chain.length),tB z]=true):Den Tryz.prog 40 [.agg (parL true p),zN z,.val (.int .i64 (lv:Int))] (.tup [.val (.bool (decide (cmpZ z (prZ (chZ p) lv / 2)≤0))),.val (.int .i64 0)]):=by
 have hg:goodB p=true:=okT_at hk 0 (by simp)
 have a1:=tW_iff.1 (okT_at hk 1 (by simp))
 obtain ⟨y,y0,yf,y1,_,y3⟩:=tB_iff.1 (okT_at hk 2 (by simp))
 have yy:=strN_inj y3
 have y2:=of_decide_eq_false y1
 obtain rfl:z=y:=by omega
 have hpw:=(good_plain hg).2.2.1
 have hs:=r14State_den p hp lv 1
 rw [show stB p lv 1=true from stB_of (by rw [hg,decide_eq_true (by omega),decide_eq_true (by omega),decide_eq_true (by omega),decide_eq_true (by omega)];rfl)] at hs
 have h2:=r15b_ok yf y0
 have hb:=r15BareFits_Z p lv z hp hg (by omega) yf
 generalize decide (cmpZ z (prZ (chZ p) lv / 2)≤0)=c at *
 refine den_intro (fn:=Tryz.f40) rfl rfl rfl rfl rfl ?_
 refine go ?_
 refine r_call hs ?_
 refine go ?_
 refine g_callM (hl:=fun _=>r_call h2 (run_fin rfl)) (h:=?_)
 refine go ?_
 refine c_no ?_
 refine go ?_
 refine r_call hb ?_
 refine go ?_
 refine fin ?_
 exact cv
theorem r15Fits_bad (p:PD) (lv:Int) (na:Bool) (sa:ByteArray) (hp:PFit p) (h:okT [.v p,tW lv (1) (p.chain.length),.b na sa]=false):Den Tryz.prog 40 [.agg (parL true p),wS na sa,.val (.int .i64 lv)] (.tup [.val (.bool false),.val (.int .i64 2)]):=by
 have hs:=r14State_den p hp lv 1
 cases q:stB p lv 1 with
 | false=>
  rw [q] at hs
  refine den_intro (fn:=Tryz.f40) rfl rfl rfl rfl rfl ?_
  refine go ?_
  refine r_call hs ?_
  refine go ?_
  refine fin ?_
  exact cv
 | true=>
  rw [q] at hs
  obtain ⟨hg,s1,s2,s3,s4⟩:=stB_p q
  have h:(goodB p && ((tW lv 1 p.chain.length).ok && ((Ts.b na sa).ok && true)))=false:=h
  rw [hg,tW_ok s1 s2,Bool.true_and,Bool.true_and,Bool.and_true] at h
  have h2:=r15b_is _ h
  refine den_intro (fn:=Tryz.f40) rfl rfl rfl rfl rfl ?_
  refine go ?_
  refine r_call hs ?_
  refine go ?_
  refine g_callM (hl:=fun _=>r_call h2 (run_fin rfl)) (h:=?_)
  refine go ?_
  refine c_yes ?_
  refine go ?_
  refine fin ?_
  exact cv

instance fi113:FI Tryz.prog 113 Tryz.f113:=⟨Tryz.func113,Tryz.call113⟩
instance fi37:FI Tryz.prog 37 Tryz.f37:=⟨Tryz.func37,Tryz.call37⟩
theorem r15BareExtra_Z (p:PD) (lv ex sm tm:Nat) (hp:PFit p) (hg:goodB p=true) (l1:1≤lv) (l2:lv≤p.chain.length) (e1:1≤ex) (e2:(ex:Int)≤p.power) (hsm:p.prime ^ ex=sm) (htm:p.prime ^ p.power.toNat=tm) :
  Den Tryz.prog 113 [.agg (parL true p),.val (.int .i64 (lv:Int)),.val (.int .i64 (ex:Int))] (zN (exV p lv sm tm)):=by
 obtain ⟨q1,q2,q3,q4,q5⟩:=good_plain hg
 have q6:=q5 ex (by omega)
 have q7:=q5 p.power.toNat (by omega)
 have hN:=r15numbers_den p ex sm tm hp hg e2 hsm htm
 rw [hsm] at q6
 rw [htm] at q7
 have hgn:=good_gn hg
 have hpe:=hp.err
 have g0:=hgn.len2
 have g1:=hgn.weight1
 have g2:=hgn.weight2
 have g3:=hgn.err
 have g4:=hgn.special
 have g5:=hgn.n1
 have g6:=hgn.n2
 have hT:=exT_in (p:=p) (sm:=sm) (tm:=tm) (lv:=lv) hgn (by omega) (by omega) l2
 have hSi:∀ i,i≤lv→0≤smZ (exT p sm tm) (i+1)∧Bb 33 (smZ (exT p sm tm) (i+1)):=fun i hi=>exS_in (p:=p) (sm:=sm) (tm:=tm) (lv:=i) hgn (by omega) (by omega) (by omega)
 have hB:=exB_in (p:=p) (sm:=sm) hgn (by omega) (by omega)
 have hs:=r15of1_den (sm:Int) (by omega) (by omega)
 have hpr:Den Tryz.prog 96 [.fz true 3 1 (iD (z3 (sm:Int) (p.weight+1) (((p.special - 1) / 2:Nat):Int)))] (zN (smZ (exT p sm tm) (0+1))):=by
  rw [show smZ (exT p sm tm) (0+1)=exT p sm tm 0 from Int.zero_add _]
  exact r15of_den 3 _ (by omega) (fun j=>z3_all (P:=fun z=> -9223372036854775808≤z∧z≤9223372036854775807) (by omega) (by omega) (by omega) j)
 have hpj:∀ j,j<lv→Den Tryz.prog 96 [.fz true 4 1 (iD (z4 (tm:Int) p.n (p.err:Int) (((p.chain.getD j 0 - 1) / 2:Nat):Int)))] (zN (exT p sm tm (j+1))):=fun j hj=>r15of_den 4 _ (by omega) (fun i=>z4_all (P:=fun z=> -9223372036854775808≤z∧z≤9223372036854775807) (by omega) (by omega) (by omega) (by have:=hgn.chain j (by omega);omega) i)
 have hpl:∀ j,j<lv→Den Tryz.prog 187 [zN (smZ (exT p sm tm) (j+1)),zN (exT p sm tm (j+1))] (zN (smZ (exT p sm tm) (j+1+1))):=fun j hj=>r15plus_den _ _ ((hSi j (by omega)).2.fz (by omega)) ((hT (j+1) (by omega)).2.fz (by omega)) ((hSi (j+1) (by omega)).2.fz (by omega))
 have hpb:Den Tryz.prog 96 [.fz true 2 1 (iD (z2 (p.special:Int) (sm:Int)))] (zN (exB p sm)):=r15of_den 2 _ (by omega) (fun j=>z2_all (P:=fun z=> -9223372036854775808≤z∧z≤9223372036854775807) (by omega) (by omega) j)
 have hS:=hSi lv (by omega)
 have hqf:Bb 33 (smZ (exT p sm tm) (lv+1) / exB p sm):=hS.2.div hS.1 (by omega)
 have hdv:=r2Div_den (smZ (exT p sm tm) (lv+1)) (exB p sm) (hS.2.fz (by omega)) (hB.2.fz (by omega)) (by omega)
 have hmu:=r15times_den (smZ (exT p sm tm) (lv+1) / exB p sm) (sm:Int) (hqf.fz (by omega)) (Fz.i64 (by omega) (by omega)) ((hqf.mul (Bb.i64 (z:=(sm:Int)) (by omega) (by omega))).fz (by omega))
 unfold exV
 generalize smZ (exT p sm tm) (lv+1) / exB p sm=X at *
 generalize smZ (exT p sm tm) (lv+1) % exB p sm=X2 at *
 generalize hXs:X*(sm:Int)=Y at *
 generalize exB p sm=B at *
 generalize exT p sm tm=xE at *
 clear hsm htm q5 hS hT hXs hSi
 refine den_intro (fn:=Tryz.f113) rfl rfl rfl rfl rfl ?_
 refine go ?_
 refine r_call hN ?_
 refine gor ?_
 refine goc ?_
 refine c_reg ?_
 refine gor ?_
 refine goc ?_
 refine c_reg ?_
 refine go1 ?_
 refine go1 ?_
 refine go1 ?_
 refine go1 ?_
 refine go1 ?_
 refine go1 ?_
 refine r_bslF (iD (z3 (sm:Int) (p.weight+1) (((p.special - 1) / 2:Nat):Int))) ?_ (hf:=z3_ok _ _ _ )
 refine r_eqH (.fz false 3 1 (iD (z3 (sm:Int) (p.weight+1) (((p.special - 1) / 2:Nat):Int)))) rfl ?_
 refine r_call hpr ?_
 refine go ?_
 refine c_up lv (fun i=>[(13,.val (.int .i64 (i:Nat)))]) (fun i=>[(1012,some (.lit 42 (zL (smZ xE (i+1)))))]) (fun i hi=>?_)
 refine go ?_
 refine c_if (fun h=>?_) (fun h=>?_)
 ·have hpi:=hpj i h
  have hpli:=hpl i h
  have hpc:=hp.chain i (by omega)
  have hci:=hgn.chain i (by omega)
  refine goc ?_
  refine c_reg ?_
  refine go1 ?_
  refine go1 ?_
  refine go1 ?_
  refine go1 ?_
  refine go1 ?_
  refine go1 ?_
  refine go1 ?_
  refine go1 ?_
  refine go1 ?_
  refine go1 ?_
  refine go1 ?_
  refine go1 ?_
  refine go1 ?_
  refine r_bslF (iD (z4 (tm:Int) p.n (p.err:Int) (((p.chain.getD i 0 - 1) / 2:Nat):Int))) ?_ (hf:=z4_ok _ _ _ _ )
  refine r_eqH (.fz false 4 1 (iD (z4 (tm:Int) p.n (p.err:Int) (((p.chain.getD i 0 - 1) / 2:Nat):Int)))) rfl ?_
  refine r_call hpi ?_
  refine go ?_
  refine r_call hpli ?_
  refine go ?_
  refine ⟨h,?_⟩
  exact sub
 ·obtain rfl:i=lv:=by omega
  refine goc ?_
  refine c_reg ?_
  refine go1 ?_
  refine go1 ?_
  refine go1 ?_
  refine r_bslF (iD (z2 (p.special:Int) (sm:Int))) ?_ (hf:=z2_ok _ _ )
  refine r_eqH (.fz false 2 1 (iD (z2 (p.special:Int) (sm:Int)))) rfl ?_
  refine r_call hpb ?_
  refine go ?_
  refine r_call hdv ?_
  refine gor ?_
  refine goc ?_
  refine c_reg ?_
  refine go1 ?_
  refine go1 ?_
  refine r_bslF (iD (fun _=>(sm:Int))) ?_ (hf:=z1_ok _)
  refine r_eqH (.fz false 1 1 (iD (fun _=>(sm:Int)))) rfl ?_
  refine r_call hs ?_
  refine go ?_
  refine r_call hmu ?_
  refine go ?_
  refine fin ?_
  exact cv
theorem r15Extra_Z (p:PD) (lv ex:Nat) (hp:PFit p) (hk:okT [.v p,tW (lv:Int) (1) (p.chain.length),tW (ex:Int) (1) (p.power)]=true):Den Tryz.prog 37 [.agg (parL true p),.val (.int .i64 (lv:Int)),.val (.int .i64 (ex:Int))] (.tup [zN (exV p lv (p.prime ^ ex) (p.prime ^ p.power.toNat)),.val (.int .i64 0)]):=by
 have hg:goodB p=true:=okT_at hk 0 (by simp)
 have a1:=tW_iff.1 (okT_at hk 1 (by simp))
 have a2:=tW_iff.1 (okT_at hk 2 (by simp))
 have hb:=r15BareExtra_Z p lv ex _ _ hp hg (by omega) (by omega) (by omega) (by omega) rfl rfl
 have hs:=r14State_den p hp lv ex
 rw [show stB p lv ex=true from stB_of (by rw [hg,decide_eq_true (by omega),decide_eq_true (by omega),decide_eq_true (by omega),decide_eq_true (by omega)];rfl)] at hs
 generalize exV p lv (p.prime ^ ex) (p.prime ^ p.power.toNat)=V at *
 refine den_intro (fn:=Tryz.f37) rfl rfl rfl rfl rfl ?_
 refine go ?_
 refine r_call hs ?_
 refine go ?_
 refine c_no ?_
 refine go ?_
 refine r_call hb ?_
 refine go ?_
 refine fin ?_
 exact cv
theorem r15Extra_bad (p:PD) (lv ex:Int) (hp:PFit p) (hk:okT [.v p,tW lv (1) (p.chain.length),tW ex (1) (p.power)]=false):Den Tryz.prog 37 [.agg (parL true p),.val (.int .i64 lv),.val (.int .i64 ex)] (.tup [wZ,.val (.int .i64 2)]):=by
 have hs:=r14State_den p hp lv ex
 rw [show stB p lv ex=false by
  cases q:stB p lv ex with
  | false=>rfl
  | true=>
   obtain ⟨hg,s1,s2,s3,s4⟩:=stB_p q
   have h:(goodB p && ((tW lv 1 p.chain.length).ok && ((tW ex 1 p.power).ok && true)))=false:=hk
   rw [hg,tW_ok s3 s4,tW_ok s1 s2] at h
   cases h] at hs
 refine den_intro (fn:=Tryz.f37) rfl rfl rfl rfl rfl ?_
 refine go ?_
 refine r_call hs ?_
 refine go ?_
 refine c_yes ?_
 refine go ?_
 refine fin ?_
 exact cv

set_option maxHeartbeats 4000000
theorem eqWide (a b:Bool) (s u:ByteArray) (w:World):(Op.equalIn 10000 42 (.agg #[.bool a,.string s]) (.agg #[.bool b,.string u])).run Tryz.prog w = .ok (a == b && s.toList == u.toList) w:=by
 have u3:=Tryz.underlying4
 have a3:=Tryz.isAgg4
 have z3:=Tryz.sizeOf4
 have u4:=Tryz.underlying9
 have a4:=Tryz.isAgg9
 have z4:=Tryz.sizeOf9
 have hS:Tryz.prog.underlying 42=some (.struct (Tryz.prog.fieldsOf 42)):=by kernel_rfl
 rw [show (10000:Nat)=9999+1 from rfl,run_equalIn_agg w 9999 42 _ _ hS (by kernel_rfl)]
 simp only [Program.fieldsOf,Tryz.underlying42]
 go_simp
 by_cases h1:a=b<;>by_cases h2:s.toList=u.toList<;>simp [h1,h2]
theorem bw_neq {ox oy:Operand} (a b:Bool) (s u:ByteArray):BinR Tryz.prog .neq 42 ox oy (.agg #[.bool a,.string s]) (.agg #[.bool b,.string u]) (.bool (!(a == b && s.toList == u.toList))):=fun w=>by
 have h:=eqWide a b s u w
 simp [eqGuard,run_neq_struct,h,Result.andThen]
theorem bw_eql {ox oy:Operand} (a b:Bool) (s u:ByteArray):BinR Tryz.prog .eql 42 ox oy (.agg #[.bool a,.string s]) (.agg #[.bool b,.string u]) (.bool (a == b && s.toList == u.toList)):=fun w=>by
 have h:=eqWide a b s u w
 simp [eqGuard,run_eql_struct,h,Result.andThen]
theorem bw_same {ox oy:Operand} (a:Bool) (s:ByteArray):BinR Tryz.prog .eql 42 ox oy (.agg #[.bool a,.string s]) (.agg #[.bool a,.string s]) (.bool true):=by
 have h:=bw_eql (ox:=ox) (oy:=oy) a a s s
 rw [show (a == a && s.toList == s.toList)=true by simp] at h
 exact h
theorem bw_nsame {ox oy:Operand} (a:Bool) (s:ByteArray):BinR Tryz.prog .neq 42 ox oy (.agg #[.bool a,.string s]) (.agg #[.bool a,.string s]) (.bool false):=by
 have h:=bw_neq (ox:=ox) (oy:=oy) a a s s
 rw [show (!(a == a && s.toList == s.toList))=false by simp] at h
 exact h
theorem bi_same {P:Program} {t:TypeId} {ox oy:Operand} (k:IntKind) (e:Int):BinR P .eql t ox oy (.int k e) (.int k e) (.bool true):=by
 have h:=bi_eql (P:=P) (t:=t) (ox:=ox) (oy:=oy) (k:=k) (x:=e) (y:=e)
 rw [decide_eq_true rfl] at h
 exact h
theorem bi_nsame {P:Program} {t:TypeId} {ox oy:Operand} (k:IntKind) (e:Int):BinR P .neq t ox oy (.int k e) (.int k e) (.bool false):=by
 have h:=bi_neq (P:=P) (t:=t) (ox:=ox) (oy:=oy) (k:=k) (x:=e) (y:=e)
 rw [decide_eq_false (fun h=>h rfl)] at h
 exact h
theorem bb_same {P:Program} {t:TypeId} {ox oy:Operand} {i:TypeInfo} [hT:TI P t i .bool] (e:Bool):BinR P .eql t ox oy (.bool e) (.bool e) (.bool true):=by
 have h:=bb_eql (P:=P) (t:=t) (ox:=ox) (oy:=oy) (p:=e) (q:=e)
 rw [show (e == e)=true by simp] at h
 exact h
theorem rep_two {Z:Zn} {w:World} {i:Nm} {v a b:Value} (h:Rep Z w i v (.agg [.val a,.val b])):v = .agg #[a,b]:=by
 cases h with
 | agg _ vs _ hl _ hr=>
  have h0:=(hr 0 (by simp)).valEq
  have h1:=(hr 1 (by simp)).valEq
  match vs,hl with
  | [x,y],_=>
   simp only [List.getD_cons_zero,List.getD_cons_succ] at h0 h1
   rw [h0,h1]
theorem loc_binW {P:Program} {N:Nat} {o:Oper} {E:Nat→D} {H:Nat→Option Box} {op:BinOp} {t ty:TypeId} {x y:Operand} {a b a' b' r:Value} (ho:o.op = .binOp op t x y ty) (hd:dstLt o N=true) (hx:Opd E x (.agg [.val a,.val b])) (hy:Opd E y (.agg [.val a',.val b']))
  (hr:∀ w,(do eqGuard op t x y (.agg #[a,b]) (.agg #[a',b']);binOp op t (.agg #[a,b]) (.agg #[a',b']):Sem Value).run P w = .ok r w):Loc P N o E H ⟨[],o.dst,.val r,[],[]⟩:=
 loc_run (by simp [ho]) hd (fun E1 H1 S Z i ac w hF hA _=>by
  have h1:=rep_two (hF.opd (hA x (by simp [ho,Op.operands]) _ hx))
  have h2:=rep_two (hF.opd (hA y (by simp [ho,Op.operands]) _ hy))
  have h3:=hr w
  refine ⟨r,?_,.val _ _⟩
  simp only [execOp,ho,h1,h2]
  rw [Sem.run_bind,h3]
  rfl)
section
variable {P:Program} {N:Nat} {ops:Array Oper} {rest:List Oper} {env:List (Nat × D)} {box:List (Nat × Option Box)} {done:List Rec} {K:List Rec→List (Nat × D)→List (Nat × Option Box)→Prop} {d:Nat} {ty:TypeId} {pos:String} {aft:Array Edge}
theorem r_binW {tx ty':Nat} {op:BinOp} {t t2:TypeId} {a b a' b' r:Value} (hr:BinR P op t (.tmp tx) (.tmp ty') (.agg #[a,b]) (.agg #[a',b']) r) (h:RunK P N ops rest ((d,.val r)::env) box (done++[⟨[],some d,.val r,[],[]⟩]) K)
  (hx:autoParam (Lk env tx (.agg [.val a,.val b])) aq10._auto_1) (hy:autoParam (Lk env ty' (.agg [.val a',.val b'])) aq10._auto_1) (hd:Nat.blt d (fsz N)=true:=by rfl):RunK P N ops (⟨some d,.binOp op t (.tmp tx) (.tmp ty') t2,ty,pos,aft,none⟩::rest) env box done K:=
 run_put (ws:=[]) (fresh:=[]) (loc_binW rfl hd (Op1.tmp hx).opd (Op1.tmp hy).opd hr) rfl h
theorem g_Y {j t:Nat} {c:Bool} {dst:Option Nat} {op:Op} (h:RunK P N ops (⟨dst,op,ty,pos,aft,none⟩::rest) env box done K) (ht:(ops[j]?).bind (·.dst)=some t:=by rfl) (hx:Lk env t (.val (.bool c)):=by (repeat (first | (with_reducible exact Lk.here) | apply Lk.there rfl))):RunK P N ops (⟨dst,op,ty,pos,aft,some (j,c)⟩::rest) env box done K:=g_T ht hx h
theorem g_N {j t:Nat} {c c':Bool} {op:Op} (h:RunK P N ops rest ((d,.any)::env) box (done++[⟨[],some d,.any,[],[]⟩]) K) (ht:(ops[j]?).bind (·.dst)=some t:=by rfl) (hx:Lk env t (.val (.bool c')):=by (repeat (first | (with_reducible exact Lk.here) | apply Lk.there rfl))) (hc:c' = !c:=by rfl) (hd:Nat.blt d (fsz N)=true:=by rfl):RunK P N ops (⟨some d,op,ty,pos,aft,some (j,c)⟩::rest) env box done K:=g_F ht hx hc hd h
theorem r_binI {tx ty':Nat} {op:BinOp} {t t2:TypeId} {a b r:Value} (hr:BinR P op t (.tmp tx) (.tmp ty') a b r) (h:RunK P N ops rest ((d,.val r)::env) box (done++[⟨[],some d,.val r,[],[]⟩]) K)
  (hx:autoParam (Lk env tx (.val a)) aq10._auto_1) (hy:autoParam (Lk env ty' (.val b)) aq10._auto_1) (hd:Nat.blt d (fsz N)=true:=by rfl):RunK P N ops (⟨some d,.binOp op t (.tmp tx) (.tmp ty') t2,ty,pos,aft,none⟩::rest) env box done K:=
 r_bin (Op1.tmp hx) (Op1.tmp hy) hr hd h
end

set_option maxHeartbeats 8000000
def Alk (f g:FuncId) (ds:List D):Prop:=∃ (b:Bool) (s:ByteArray) (e:Int),Den Tryz.prog f ds (.tup [wS b s,.val (.int .i64 e)])∧Den Tryz.prog g ds (.tup [wS b s,.val (.int .i64 e)])
theorem Alk.Z {f g:FuncId} {ds:List D} (z:Int) (h1:Den Tryz.prog f ds (resZ z)) (h2:Den Tryz.prog g ds (resZ z)):Alk f g ds:=by
 obtain ⟨b,s,e,h⟩:=resZ_form z
 rw [h] at h1 h2
 exact ⟨b,s,e,h1,h2⟩
theorem Alk.ok {f g:FuncId} {ds:List D} (z:Int) (h1:Den Tryz.prog f ds (.tup [zN z,.val (.int .i64 0)])) (h2:Den Tryz.prog g ds (.tup [zN z,.val (.int .i64 0)])):Alk f g ds:=⟨_,_,_,h1,h2⟩
theorem Alk.no {f g:FuncId} {ds:List D} (h1:Den Tryz.prog f ds (.tup [wZ,.val (.int .i64 2)])) (h2:Den Tryz.prog g ds (.tup [wZ,.val (.int .i64 2)])):Alk f g ds:=⟨_,_,_,h1,h2⟩
theorem tB_get {b:Bool} {s:ByteArray} (h:(Ts.b b s).ok=true):∃ z:Int,0≤z∧Fz z∧b=decide (z<0)∧s=strN z.natAbs:=by
 obtain ⟨z,z0,zf,h1,h2,h3⟩:=tB_iff.1 h
 exact ⟨z,z0,zf,h1.trans h2.symm,h3⟩
theorem alk_fresh (p:PD) (hp:PFit p) (most ex:Int) (hm:most≤9223372036854775807):Alk 23 24 [.agg (parL true p),.val (.int .i64 most),.val (.int .i64 ex)]∧Alk 25 26 [.agg (parL true p),.val (.int .i64 most),.val (.int .i64 ex)]:=by
 cases q:freshOk p most ex with
 | false=>exact ⟨.no (nzFresh_bad p most ex hp q) (r15Fresh_bad p most ex hp q),.no (nzSealed_bad p most ex hp q) (r15Sealed_bad p most ex hp q)⟩
 | true=>
  have q':=q
  unfold freshOk at q'
  rw [Bool.and_eq_true] at q'
  have hx:=tW_iff.1 (okT_at q'.1 1 (by simp))
  obtain ⟨x,rfl⟩:∃ x:Nat,ex=(x:Int):=⟨ex.toNat,by omega⟩
  exact ⟨.ok _ (nzFresh_ok p x most hp q) (r15Fresh_ok p x most hp q),.ok _ (nzSealed_ok p x most hp q) (r15Sealed_ok p x most hp q)⟩
theorem alk_add (na nb:Bool) (sa sb:ByteArray):Alk 44 45 [wS na sa,wS nb sb]:=by
 cases q:(Ts.b na sa).ok && (Ts.b nb sb).ok with
 | false=>exact .no (nzAdd_bad na nb sa sb q) (r15Add_bad na nb sa sb q)
 | true=>
  rw [Bool.and_eq_true] at q
  obtain ⟨a,a0,af,rfl,rfl⟩:=tB_get q.1
  obtain ⟨b,b0,bf,rfl,rfl⟩:=tB_get q.2
  exact .Z (a+b) (nzAdd_Z a b af bf a0 b0) (r15Add_Z a b af bf a0 b0)
theorem alk_times (na:Bool) (sa:ByteArray) (n:Int) (h1 : -9223372036854775808≤n) (h2:n≤9223372036854775807):Alk 46 47 [wS na sa,.val (.int .i64 n)]:=by
 cases q:(Ts.b na sa).ok with
 | false=>exact .no (nzTimes_bad na sa n q) (r15Times_bad na sa n q)
 | true=>
  obtain ⟨a,a0,af,rfl,rfl⟩:=tB_get q
  exact .Z _ (nzTimes_Z a n af a0 h1 h2) (r15Times_Z a n af a0 h1 h2)
theorem alk_mul (p:PD) (hp:PFit p) (na nb:Bool) (sa sb:ByteArray):Alk 48 49 [.agg (parL true p),wS na sa,wS nb sb]:=by
 cases q:goodB p && ((Ts.b na sa).ok && (Ts.b nb sb).ok) with
 | false=>exact .no (nzMul_bad p na nb sa sb hp (by rw [Bool.and_assoc];exact q)) (r15Mul_bad p na nb sa sb hp q)
 | true=>
  rw [Bool.and_eq_true,Bool.and_eq_true] at q
  obtain ⟨a,a0,af,rfl,rfl⟩:=tB_get q.2.1
  obtain ⟨b,b0,bf,rfl,rfl⟩:=tB_get q.2.2
  exact .Z _ (nzMul_Z p a b hp q.1 af bf a0 b0) (r15Mul_Z p a b hp q.1 af bf a0 b0)
theorem alk_divide (p:PD) (hp:PFit p) (na:Bool) (sa:ByteArray):Alk 29 50 [.agg (parL true p),wS na sa]:=by
 cases q:goodB p && (Ts.b na sa).ok with
 | false=>exact .no (nzDivide_bad p na sa hp q) (r15Divide_bad p na sa hp q)
 | true=>
  rw [Bool.and_eq_true] at q
  obtain ⟨a,a0,af,rfl,rfl⟩:=tB_get q.2
  have hq:=(good_plain q.1).1
  exact .ok _ (nzDivide_Z p a hp q.1 af a0 (by omega)) (r15Divide_Z p a hp q.1 af a0)
theorem alk_extra (p:PD) (hp:PFit p) (lv ex:Int):Alk 36 37 [.agg (parL true p),.val (.int .i64 lv),.val (.int .i64 ex)]:=by
 cases q:okT [.v p,tW lv (1) (p.chain.length),tW ex (1) (p.power)] with
 | false=>exact .no (nzExtra_bad p lv ex hp q) (r15Extra_bad p lv ex hp q)
 | true=>
  have a1:=tW_iff.1 (okT_at q 1 (by simp))
  have a2:=tW_iff.1 (okT_at q 2 (by simp))
  obtain ⟨l,rfl⟩:∃ l:Nat,lv=(l:Int):=⟨lv.toNat,by omega⟩
  obtain ⟨x,rfl⟩:∃ x:Nat,ex=(x:Int):=⟨ex.toNat,by omega⟩
  exact .ok _ (nzExtra_Z p l x hp q) (r15Extra_Z p l x hp q)
theorem alk_down (p:PD) (hp:PFit p) (na:Bool) (sa:ByteArray) (lv ex:Int):Alk 32 38 [.agg (parL true p),wS na sa,.val (.int .i64 lv),.val (.int .i64 ex)]:=by
 cases q:okT [.v p,tW lv (2) (p.chain.length),tW ex (1) (p.power),.b na sa] with
 | false=>exact .no (nzDown_bad p lv ex na sa hp q) (r15Down_bad p lv ex na sa hp q)
 | true=>
  have a1:=tW_iff.1 (okT_at q 1 (by simp))
  have a2:=tW_iff.1 (okT_at q 2 (by simp))
  obtain ⟨a,a0,af,rfl,rfl⟩:=tB_get (okT_at q 3 (by simp))
  obtain ⟨l,rfl⟩:∃ l:Nat,lv=(l:Int):=⟨lv.toNat,by omega⟩
  obtain ⟨x,rfl⟩:∃ x:Nat,ex=(x:Int):=⟨ex.toNat,by omega⟩
  exact .Z _ (nzDown_Z p l x a hp q) (r15Down_Z p l x a hp (downF_of q))
theorem alk_to (p:PD) (hp:PFit p) (na:Bool) (sa:ByteArray) (lv ex n:Int):Alk 21 22 [.agg (parL true p),wS na sa,.val (.int .i64 lv),.val (.int .i64 ex),.val (.int .i64 n)]:=by
 cases q:okT [.v p,tW lv (1) (p.chain.length),tW ex (1) (p.power),.b na sa] with
 | false=>exact .no (nzTo_bad p lv ex n na sa hp q) (r15To_bad p lv ex n na sa hp q)
 | true=>
  have a1:=tW_iff.1 (okT_at q 1 (by simp))
  have a2:=tW_iff.1 (okT_at q 2 (by simp))
  obtain ⟨a,a0,af,rfl,rfl⟩:=tB_get (okT_at q 3 (by simp))
  obtain ⟨l,rfl⟩:∃ l:Nat,lv=(l:Int):=⟨lv.toNat,by omega⟩
  obtain ⟨x,rfl⟩:∃ x:Nat,ex=(x:Int):=⟨ex.toNat,by omega⟩
  cases q2:okT [tW n (3) (2147483647),tW (n.tmod ((p.prime ^ x:Nat):Int)) (1) (1)] with
  | false=>
   refine .no (nzTo_bad2 p l x a n hp q q2) (r15To_bad2 p l x _ a n hp (lvF_of q) rfl ?_)
   have h:((tW n 3 2147483647).ok && ((tW (n.tmod ((p.prime ^ x:Nat):Int)) 1 1).ok && true))=false:=q2
   by_cases c1:n<3
   ·rw [decide_eq_true c1];rfl
   ·by_cases c2:2147483647<n
    ·rw [decide_eq_true c2,Bool.or_true];rfl
    ·by_cases c3:n.tmod ((p.prime ^ x:Nat):Int)=1
     ·rw [tW_ok (by omega) (by omega),tW_ok (by omega) (by omega)] at h
      cases h
     ·rw [decide_eq_true c3,Bool.or_true]
  | true=>
   have b1:=tW_iff.1 (okT_at q2 0 (by simp))
   have b2:=tW_iff.1 (okT_at q2 1 (by simp))
   exact .Z _ (nzTo_Z p l x a n hp q q2) (r15To_Z p l x a n hp (lvF_of q) b1.1 b1.2 (by omega))
theorem alk_fits (p:PD) (hp:PFit p) (na:Bool) (sa:ByteArray) (lv:Int):∃ (c:Bool) (e:Int),Den Tryz.prog 39 [.agg (parL true p),wS na sa,.val (.int .i64 lv)] (.tup [.val (.bool c),.val (.int .i64 e)])∧Den Tryz.prog 40 [.agg (parL true p),wS na sa,.val (.int .i64 lv)] (.tup [.val (.bool c),.val (.int .i64 e)]):=by
 cases q:okT [.v p,tW lv (1) (p.chain.length),.b na sa] with
 | false=>exact ⟨_,_,nzFits_bad p lv na sa hp q,r15Fits_bad p lv na sa hp q⟩
 | true=>
  have a1:=tW_iff.1 (okT_at q 1 (by simp))
  obtain ⟨a,a0,af,rfl,rfl⟩:=tB_get (okT_at q 2 (by simp))
  obtain ⟨l,rfl⟩:∃ l:Nat,lv=(l:Int):=⟨lv.toNat,by omega⟩
  exact ⟨_,_,nzFits_Z p l a hp q,r15Fits_Z p l a hp q⟩

instance fi20:FI Tryz.prog 20 Tryz.f20:=⟨Tryz.func20,Tryz.call20⟩
theorem p4_goodB:goodB p4=true:=goodB_iff.2 p4_good
theorem p4_fresh:Den Tryz.prog 23 [.agg (parL true p4),.val (.int .i64 8),.val (.int .i64 1)] (.tup [zN 314,.val (.int .i64 0)]):=by
 have h:freshOk p4 8 ((1:Nat):Int)=true:=by
  have e1:okT [.v p4,tW ((1:Nat):Int) (1) (p4.power)]=true:=by
   show (goodB p4 && ((tW ((1:Nat):Int) 1 p4.power).ok && true))=true
   rw [p4_goodB,tW_ok (by decide) (by decide)];rfl
  have e2:okT [tW 8 (0) (((p4.prime ^ (((1:Nat):Int)).toNat - 1) / 2:Nat))]=true:=by
   show ((tW 8 0 _).ok && true)=true
   rw [tW_ok (by decide) (by decide)];rfl
  unfold freshOk
  rw [e1,e2];rfl
 have:=nzFresh_ok p4 1 8 p4_fit h
 rw [show freshV p4 1 8=314 by decide] at this
 exact this
theorem p4_to:Den Tryz.prog 21 [.agg (parL true p4),zN 0,.val (.int .i64 1),.val (.int .i64 1),.val (.int .i64 290)] (.tup [zN 42,.val (.int .i64 0)]):=by
 have e1:okT [.v p4,tW ((1:Nat):Int) (1) (p4.chain.length),tW ((1:Nat):Int) (1) (p4.power),tB 0]=true:=by
  show (goodB p4 && ((tW ((1:Nat):Int) 1 p4.chain.length).ok && ((tW ((1:Nat):Int) 1 p4.power).ok && ((tB 0).ok && true))))=true
  rw [p4_goodB,tW_ok (by decide) (by decide),tW_ok (by decide) (by decide),tB_ok (by decide) (by decide)];rfl
 have e2:okT [tW 290 (3) (2147483647),tW ((290:Int).tmod ((p4.prime ^ 1:Nat):Int)) (1) (1)]=true:=by
  show ((tW 290 3 2147483647).ok && ((tW ((290:Int).tmod ((p4.prime ^ 1:Nat):Int)) 1 1).ok && true))=true
  rw [tW_ok (by decide) (by decide),tW_ok (by decide) (by decide)];rfl
 have:=nzTo_Z p4 1 1 0 290 p4_fit e1 e2
 rw [show qtV (prZ (chZ p4) 1) 290 0 (toS p4 1 1)=42 by decide,resZ_ok (by decide)] at this
 exact this
theorem p4_fits:Den Tryz.prog 39 [.agg (parL true p4),zN 536870912,.val (.int .i64 1)] (.tup [.val (.bool true),.val (.int .i64 0)]):=by
 have e1:okT [.v p4,tW ((1:Nat):Int) (1) (p4.chain.length),tB 536870912]=true:=by
  show (goodB p4 && ((tW ((1:Nat):Int) 1 p4.chain.length).ok && ((tB 536870912).ok && true)))=true
  rw [p4_goodB,tW_ok (by decide) (by decide),tB_ok (Fz.i64 (by omega) (by omega)) (by omega)];rfl
 have:=nzFits_Z p4 1 536870912 p4_fit e1
 rw [show decide (cmpZ 536870912 (prZ (chZ p4) 1 / 2)≤0)=true by decide] at this
 exact this
theorem awake15_den:Den Tryz.prog 20 [] (.val (.bool true)):=by
 have h1:=p4_fresh
 have h2:=p4_to
 have h3:=p4_fits
 have o0:=r2Of_den 0 (by omega) (by omega)
 have o1:=r2Of_den 536870912 (by omega) (by omega)
 have o2:=r2Of_den 314 (by omega) (by omega)
 have o3:=r2Of_den 42 (by omega) (by omega)
 obtain ⟨d0,e0⟩:∃ d:Int,d=0:=⟨_,rfl⟩
 obtain ⟨d1,e1⟩:∃ d:Int,d=536870912:=⟨_,rfl⟩
 obtain ⟨d2,e2⟩:∃ d:Int,d=314:=⟨_,rfl⟩
 obtain ⟨d3,e3⟩:∃ d:Int,d=42:=⟨_,rfl⟩
 replace h1:Den Tryz.prog 23 [.agg (parL true p4),.val (.int .i64 8),.val (.int .i64 1)] (.tup [zN d2,.val (.int .i64 0)]):=by rw [e2];exact h1
 replace h2:Den Tryz.prog 21 [.agg (parL true p4),zN d0,.val (.int .i64 1),.val (.int .i64 1),.val (.int .i64 290)] (.tup [zN d3,.val (.int .i64 0)]):=by rw [e0,e3];exact h2
 replace h3:Den Tryz.prog 39 [.agg (parL true p4),zN d1,.val (.int .i64 1)] (.tup [.val (.bool true),.val (.int .i64 0)]):=by rw [e1];exact h3
 replace o0:Den Tryz.prog 31 [.val (.int .i64 0)] (zN d0):=by rw [e0];exact o0
 replace o1:Den Tryz.prog 31 [.val (.int .i64 536870912)] (zN d1):=by rw [e1];exact o1
 replace o2:Den Tryz.prog 31 [.val (.int .i64 314)] (zN d2):=by rw [e2];exact o2
 replace o3:Den Tryz.prog 31 [.val (.int .i64 42)] (zN d3):=by rw [e3];exact o3
 clear e0 e1 e2 e3
 refine den_intro (fn:=Tryz.f20) rfl rfl rfl rfl rfl ?_
 refine go ?_
 refine r_call small13_den ?_
 refine go ?_
 refine r_eqS 10 (.agg (parL false p4)) rfl ?_
 refine r_call h1 ?_
 refine go ?_
 refine r_call o0 ?_
 refine go ?_
 refine r_eqS 15 (.agg (parL false p4)) rfl ?_
 refine r_call h2 ?_
 refine go ?_
 refine r_call o1 ?_
 refine go ?_
 refine r_eqS 21 (.agg (parL false p4)) rfl ?_
 refine r_call h3 ?_
 refine go ?_
 refine r_call o2 ?_
 refine r_binW (bw_same _ _) ?_
 refine go1 ?_
 refine g_Y ?_
 refine go1 ?_
 refine g_Y ?_
 refine go1 ?_
 refine r_eqH (.val (.bool true)) rfl ?_
 refine go1 ?_
 refine r_eqH (.val (.bool true)) rfl ?_
 refine go1 ?_
 refine g_Y ?_
 refine go1 ?_
 refine g_Y ?_
 refine r_call o3 ?_
 refine g_Y ?_
 refine r_binW (bw_same _ _) ?_
 refine go1 ?_
 refine r_eqH (.val (.bool true)) rfl ?_
 refine go1 ?_
 refine g_Y ?_
 refine go1 ?_
 refine g_Y ?_
 refine go1 ?_
 refine r_eqH (.val (.bool true)) rfl ?_
 refine go1 ?_
 refine r_eqH (.val (.bool true)) rfl ?_
 refine go1 ?_
 refine g_Y ?_
 refine go1 ?_
 refine go1 ?_
 refine r_eqH (.val (.bool true)) rfl ?_
 refine go1 ?_
 refine g_Y ?_
 refine go1 ?_
 refine g_Y ?_
 refine go1 ?_
 refine r_eqH (.val (.bool true)) rfl ?_
 refine go1 ?_
 refine r_eqH (.val (.bool true)) rfl ?_
 refine go1 ?_
 refine go ?_
 refine fin ?_
 exact cv

instance ti68:TI Tryz.prog 68 Tryz.t68 (.array 2 42):=⟨by kernel_rfl,by kernel_rfl⟩
instance ar68:AR Tryz.prog 68 2 2:=AR.of ti68 ti42 rfl
instance fi9:FI Tryz.prog 9 Tryz.f9:=⟨Tryz.func9,Tryz.call9⟩
theorem noiseSums_den (p:PD) (hp:PFit p) (na nb:Bool) (sa sb:ByteArray) (n:Int) (n1 : -9223372036854775808≤n) (n2:n≤9223372036854775807):Den Tryz.prog 9 [.agg (parL true p),.agg [.val (.bool na),.val (.string sa),.val (.bool nb),.val (.string sb)],.val (.int .i64 n)] (.val (.bool true)):=by
 obtain ⟨b1,s1,e1,h1,h2⟩:=alk_add na nb sa sb
 obtain ⟨b2,s2,e2,h3,h4⟩:=alk_times na sa n n1 n2
 obtain ⟨b3,s3,e3,h5,h6⟩:=alk_mul p hp na nb sa sb
 obtain ⟨b4,s4,e4,h7,h8⟩:=alk_divide p hp na sa
 have hw:=awake15_den
 refine den_intro (fn:=Tryz.f9) rfl rfl rfl rfl rfl ?_
 refine go ?_
 refine c_ifB (fun hc=>?_) (fun hc=>?_)
 ·refine go ?_
  refine r_call hw ?_
  refine go ?_
  refine fin ?_
  exact cv
 ·refine go ?_
  refine r_call h1 ?_
  refine go ?_
  refine r_call h2 ?_
  refine gor ?_
  refine goc ?_
  refine c_reg ?_
  refine go1 ?_
  refine go1 ?_
  refine r_binW (bw_nsame _ _) ?_
  refine go1 ?_
  refine g_Y ?_
  refine go1 ?_
  refine g_Y ?_
  refine go1 ?_
  refine g_Y ?_
  refine r_binI (bi_nsame _ _) ?_
  refine go1 ?_
  refine r_eqH (.val (.bool false)) rfl ?_
  refine go ?_
  refine r_call h3 ?_
  refine go ?_
  refine r_call h4 ?_
  refine gor ?_
  refine goc ?_
  refine c_reg ?_
  refine go1 ?_
  refine go1 ?_
  refine r_binW (bw_nsame _ _) ?_
  refine go1 ?_
  refine g_Y ?_
  refine go1 ?_
  refine g_Y ?_
  refine go1 ?_
  refine g_Y ?_
  refine r_binI (bi_nsame _ _) ?_
  refine go1 ?_
  refine r_eqH (.val (.bool false)) rfl ?_
  refine go ?_
  refine r_call h5 ?_
  refine go ?_
  refine r_call h6 ?_
  refine gor ?_
  refine goc ?_
  refine c_reg ?_
  refine go1 ?_
  refine go1 ?_
  refine r_binW (bw_nsame _ _) ?_
  refine go1 ?_
  refine g_Y ?_
  refine go1 ?_
  refine g_Y ?_
  refine go1 ?_
  refine g_Y ?_
  refine r_binI (bi_nsame _ _) ?_
  refine go1 ?_
  refine r_eqH (.val (.bool false)) rfl ?_
  refine go ?_
  refine r_call h7 ?_
  refine go ?_
  refine r_call h8 ?_
  refine gor ?_
  refine goc ?_
  refine c_reg ?_
  refine go1 ?_
  refine go1 ?_
  refine r_binW (bw_same _ _) ?_
  refine go1 ?_
  refine g_Y ?_
  refine go1 ?_
  refine g_Y ?_
  refine go1 ?_
  refine g_Y ?_
  refine r_binI (bi_same _ _) ?_
  refine go1 ?_
  refine r_eqH (.val (.bool true)) rfl ?_
  refine go1 ?_
  refine g_Y ?_
  refine r_call hw ?_
  refine go1 ?_
  refine go1 ?_
  refine go ?_
  refine fin ?_
  exact cv

instance fi5:FI Tryz.prog 5 Tryz.f5:=⟨Tryz.func5,Tryz.call5⟩
theorem noiseFresh_den (p:PD) (hp:PFit p) (size ex:Int) (hs:size≤9223372036854775807):Den Tryz.prog 5 [.agg (parL true p),.val (.int .i64 size),.val (.int .i64 ex)] (.val (.bool true)):=by
 obtain ⟨⟨b,s,e,h1,h2⟩,c,u,g,h3,h4⟩:=alk_fresh p hp size ex hs
 have hw:=awake15_den
 refine den_intro (fn:=Tryz.f5) rfl rfl rfl rfl rfl ?_
 refine go ?_
 refine r_call h1 ?_
 refine go ?_
 refine r_call h2 ?_
 refine go ?_
 refine r_call h3 ?_
 refine go ?_
 refine r_call h4 ?_
 refine gor ?_
 refine goc ?_
 refine c_reg ?_
 refine go1 ?_
 refine go1 ?_
 refine r_binW (bw_same _ _) ?_
 refine go1 ?_
 refine g_Y ?_
 refine go1 ?_
 refine g_Y ?_
 refine go1 ?_
 refine g_Y ?_
 refine r_binI (bi_same _ _) ?_
 refine go1 ?_
 refine r_eqH (.val (.bool true)) rfl ?_
 refine go1 ?_
 refine g_Y ?_
 refine go1 ?_
 refine g_Y ?_
 refine go1 ?_
 refine g_Y ?_
 refine r_binW (bw_same _ _) ?_
 refine go1 ?_
 refine r_eqH (.val (.bool true)) rfl ?_
 refine go1 ?_
 refine g_Y ?_
 refine go1 ?_
 refine g_Y ?_
 refine go1 ?_
 refine g_Y ?_
 refine r_binI (bi_same _ _) ?_
 refine go1 ?_
 refine r_eqH (.val (.bool true)) rfl ?_
 refine go1 ?_
 refine g_Y ?_
 refine r_call hw ?_
 refine go1 ?_
 refine go1 ?_
 refine go ?_
 refine fin ?_
 exact cv
end Go.Proofs.YtdcenblblimkfaaGreat
