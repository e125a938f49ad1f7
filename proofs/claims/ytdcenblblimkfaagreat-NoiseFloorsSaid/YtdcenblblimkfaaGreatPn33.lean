/- noise: Fresh and Sealed. (Printed by mknzl.py.)
noise: Down. (Printed by mknzl.py.)
noise: To. (Printed by mknzl.py.)
noise: Fits. (Printed by mknzl.py.)
noise: Extra. (Printed by mknzl.py.)
The reference's noise: plus, times, of, Bound, numbers, size.
The reference's noise: quotient, half, Product. (Printed by mkr15.py.)
Laws of ciphertexts' parts: plain. No walk. -/
import Derived.Test.YtdcenblblimkfaaGreatPn32
import Derived.Test.YtdcenblblimkfaaGreatPn18
import Derived.Test.YtdcenblblimkfaaGreatPn31
import Derived.Tactics
import Derived.Tactics2
import Derived.StillTactics
import Derived.Laws.Small
import Derived.Laws.StructEq
import Derived.KernelRfl
set_option linter.unusedSimpArgs false
set_option linter.unusedVariables false
set_option linter.unnecessarySimpa false
set_option linter.unusedSectionVars false
namespace Go.Proofs.YtdcenblblimkfaaGreat
open Go.RowKit
instance fi23:FI Tryz.prog 23 Tryz.f23:=⟨Tryz.func23,Tryz.call23⟩
instance fi25:FI Tryz.prog 25 Tryz.f25:=⟨Tryz.func25,Tryz.call25⟩
set_option maxRecDepth 20000
set_option maxHeartbeats 8000000
theorem nzFresh_of (p:PD) (most ex:Int) (b:Bool) (s:ByteArray) (e:Int) (h:Den Tryz.prog 98 [.agg (parL true p),.val (.int .i64 most),.val (.int .i64 ex),.val (.func (.func 99) #[] #[])] (.tup [wS b s,.val (.int .i64 e)])) :
  Den Tryz.prog 23 [.agg (parL true p),.val (.int .i64 most),.val (.int .i64 ex)] (.tup [wS b s,.val (.int .i64 e)]):=by
 refine den_intro (fn:=Tryz.f23) rfl rfl rfl rfl rfl ?_
 refine go ?_
 refine r_call h ?_
 refine go ?_
 refine fin ?_
 exact cv
theorem nzSealed_of (p:PD) (most ex:Int) (b:Bool) (s:ByteArray) (e:Int) (h:Den Tryz.prog 98 [.agg (parL true p),.val (.int .i64 most),.val (.int .i64 ex),.val (.func (.func 103) #[] #[])] (.tup [wS b s,.val (.int .i64 e)])) :
  Den Tryz.prog 25 [.agg (parL true p),.val (.int .i64 most),.val (.int .i64 ex)] (.tup [wS b s,.val (.int .i64 e)]):=by
 refine den_intro (fn:=Tryz.f25) rfl rfl rfl rfl rfl ?_
 refine go ?_
 refine r_call h ?_
 refine go ?_
 refine fin ?_
 exact cv
def freshV (p:PD) (ex:Nat) (most:Int):Int:=most+(prZ (z3 ((p.prime ^ p.power.toNat:Nat):Int) p.weight (p.err:Int)) 3+prZ (z3 ((p.prime ^ ex:Nat):Int) (p.weight+1) (p.err:Int)) 3)
def sealedV (p:PD) (ex:Nat) (most:Int):Int:=most+prZ (z2 ((p.prime ^ ex:Nat):Int) (p.err:Int)) 2
theorem z3_all {P:Int→Prop} {x y z:Int} (hx:P x) (hy:P y) (hz:P z) (j:Nat):P (z3 x y z j):=by
 unfold z3;split<;>assumption
theorem z2_all {P:Int→Prop} {x y:Int} (hx:P x) (hy:P y) (j:Nat):P (z2 x y j):=by
 unfold z2;split<;>assumption
structure FreshF (p:PD) (ex:Nat) (most:Int):Prop where
 good:goodB p=true
 ex1:1≤ex
 ex2:(ex:Int)≤p.power
 m1:0≤most
 m2:most≤(((p.prime ^ ex - 1) / 2:Nat):Int)
theorem freshOk_f {p:PD} {ex:Nat} {most:Int} (h:freshOk p most ex=true):FreshF p ex most:=by
 unfold freshOk at h
 rw [Bool.and_eq_true] at h
 have h2:=h.2
 rw [Int.toNat_natCast] at h2
 have a:=tW_iff.1 (okT_at h.1 1 (by simp))
 have b:=tW_iff.1 (okT_at h2 0 (by simp))
 exact ⟨okT_at h.1 0 (by simp),by omega,by omega,by omega,by omega⟩
theorem FreshF.fz {p:PD} {ex:Nat} {most:Int} (h:FreshF p ex most):Fz (freshV p ex most)∧Fz (prZ (z3 ((p.prime ^ p.power.toNat:Nat):Int) p.weight (p.err:Int)) 3+prZ (z3 ((p.prime ^ ex:Nat):Int) (p.weight+1) (p.err:Int)) 3)∧0≤prZ (z3 ((p.prime ^ p.power.toNat:Nat):Int) p.weight (p.err:Int)) 3+prZ (z3 ((p.prime ^ ex:Nat):Int) (p.weight+1) (p.err:Int)) 3∧Fz (sealedV p ex most)∧Fz (prZ (z2 ((p.prime ^ ex:Nat):Int) (p.err:Int)) 2)∧0≤prZ (z2 ((p.prime ^ ex:Nat):Int) (p.err:Int)) 2:=by
 obtain ⟨q1,q2,q3,q4,q5⟩:=good_plain h.good
 have g:=good_gn h.good
 have a1:=h.ex2
 have q6:=q5 ex (by omega)
 have q7:=q5 p.power.toNat (by omega)
 have g1:=g.weight1
 have g2:=g.weight2
 have g3:=g.err
 have m1:=h.m1
 have m2:=h.m2
 have hm:Bb 26 most:=(Bb.i64 (by omega) (by omega)).mono (by omega)
 unfold freshV sealedV
 generalize p.prime ^ ex=sm at *
 generalize p.prime ^ p.power.toNat=tm at *
 have b1:Bb 24 (prZ (z3 (tm:Int) p.weight (p.err:Int)) 3):=Bb.prZ (k:=8) 3 (fun j _=>z3_all (P:=Bb 8) (Bb.i64 (by omega) (by omega)) (Bb.i64 (by omega) (by omega)) (Bb.i64 (by omega) (by omega)) j)
 have b2:Bb 24 (prZ (z3 (sm:Int) (p.weight+1) (p.err:Int)) 3):=Bb.prZ (k:=8) 3 (fun j _=>z3_all (P:=Bb 8) (Bb.i64 (by omega) (by omega)) (Bb.i64 (by omega) (by omega)) (Bb.i64 (by omega) (by omega)) j)
 have b3:Bb 16 (prZ (z2 (sm:Int) (p.err:Int)) 2):=Bb.prZ (k:=8) 2 (fun j _=>z2_all (P:=Bb 8) (Bb.i64 (by omega) (by omega)) (Bb.i64 (by omega) (by omega)) j)
 have c1:0≤prZ (z3 (tm:Int) p.weight (p.err:Int)) 3:=prZ_pos 3 (fun j _=>z3_all (P:=fun z=>0≤z) (by omega) (by omega) (by omega) j)
 have c2:0≤prZ (z3 (sm:Int) (p.weight+1) (p.err:Int)) 3:=prZ_pos 3 (fun j _=>z3_all (P:=fun z=>0≤z) (by omega) (by omega) (by omega) j)
 have c3:0≤prZ (z2 (sm:Int) (p.err:Int)) 2:=prZ_pos 2 (fun j _=>z2_all (P:=fun z=>0≤z) (by omega) (by omega) j)
 have b4:=b1.add b2
 exact ⟨(hm.add (b4.mono (by omega))).fz (by omega),b4.fz (by omega),by omega,(hm.add (b3.mono (by omega))).fz (by omega),b3.fz (by omega),c3⟩
theorem nzFresh_ok (p:PD) (ex:Nat) (most:Int) (hp:PFit p) (h:freshOk p most ex=true):Den Tryz.prog 23 [.agg (parL true p),.val (.int .i64 most),.val (.int .i64 (ex:Int))] (.tup [zN (freshV p ex most),.val (.int .i64 0)]):=by
 have hF:=freshOk_f h
 obtain ⟨f1,f2,f3,_⟩:=hF.fz
 obtain ⟨q1,q2,q3,q4,q5⟩:=good_plain hF.good
 have g:=good_gn hF.good
 have a1:=hF.ex2
 have q6:=q5 ex (by omega)
 have q7:=q5 p.power.toNat (by omega)
 have g1:=g.weight1
 have g2:=g.weight2
 have g3:=g.err
 have m2:=hF.m2
 refine nzFresh_of p most ex _ _ _ (nzfresh_ok p ex most _ hp h (by omega) f3 f2 f1 (fresh1_den _ _ _ _ ⟨by omega,by omega⟩ ⟨by omega,by omega⟩ ⟨by omega,by omega⟩ ⟨by omega,by omega⟩ f2))
theorem nzSealed_ok (p:PD) (ex:Nat) (most:Int) (hp:PFit p) (h:freshOk p most ex=true):Den Tryz.prog 25 [.agg (parL true p),.val (.int .i64 most),.val (.int .i64 (ex:Int))] (.tup [zN (sealedV p ex most),.val (.int .i64 0)]):=by
 have hF:=freshOk_f h
 obtain ⟨_,_,_,f1,f2,f3⟩:=hF.fz
 obtain ⟨q1,q2,q3,q4,q5⟩:=good_plain hF.good
 have g:=good_gn hF.good
 have a1:=hF.ex2
 have q6:=q5 ex (by omega)
 have g3:=g.err
 have m2:=hF.m2
 refine nzSealed_of p most ex _ _ _ (nzfresh_ok p ex most _ hp h (by omega) f3 f2 f1 (sealed1_den _ _ _ _ ⟨by omega,by omega⟩ ⟨by omega,by omega⟩))
theorem nzFresh_bad (p:PD) (most ex:Int) (hp:PFit p) (h:freshOk p most ex=false):Den Tryz.prog 23 [.agg (parL true p),.val (.int .i64 most),.val (.int .i64 ex)] (.tup [wZ,.val (.int .i64 2)]):=nzFresh_of p most ex _ _ _ (nzfresh_bad p most ex hp h)
theorem nzSealed_bad (p:PD) (most ex:Int) (hp:PFit p) (h:freshOk p most ex=false):Den Tryz.prog 25 [.agg (parL true p),.val (.int .i64 most),.val (.int .i64 ex)] (.tup [wZ,.val (.int .i64 2)]):=nzSealed_of p most ex _ _ _ (nzfresh_bad p most ex hp h)

instance fi32:FI Tryz.prog 32 Tryz.f32:=⟨Tryz.func32,Tryz.call32⟩
instance fi108:FI Tryz.prog 108 Tryz.f108:=⟨Tryz.func108,Tryz.call108⟩
theorem down1_ok (p:PD) (lv ex sm q:Nat) (z S:Int) (hp:PFit p) (hg:goodB p=true) (l1:2≤lv) (l2:lv≤p.chain.length) (e1:1≤ex) (e2:(ex:Int)≤p.power) (hsm:p.prime ^ ex=sm) (hk:okT [.v p,tW (lv:Int) (2) (p.chain.length),tW (ex:Int) (1) (p.power),tB z]=true) (hz:Fz z) (hz0:0≤z) (hq:p.chain.getD (lv - 1) 0=q) (hS:prZ (z3 (sm:Int) (p.weight+1) (((q - 1) / 2:Nat):Int)) 3=S) (hF:Fz (qtV q 1 z S)) :
  Den Tryz.prog 108 [.fptr true (parL true p),.fptr true [.val (.int .i64 (lv:Int))],.fptr true [.val (.int .i64 (ex:Int))],.fptr true (zL z)] (zN (qtV q 1 z S)):=by
 obtain ⟨q1,q2,q3,q4,q5⟩:=good_plain hg
 have q6:=q5 ex (by omega)
 have hM:=nzmodulus_den p ex (fun i hi=>(q5 i (by omega)).2) (by omega)
 rw [hsm] at hM q6
 have hv:=nzvalid_den p
 have hw1:=hp.weight1
 have hw2:=hp.weight2
 have hgn:=good_gn hg
 have hch:=hgn.chain (lv - 1) (by omega)
 rw [hq] at hch
 have hll:=hgn.len2
 have hwg:=hgn.weight2
 have hS0:0≤S:=by rw [← hS];exact prZ_pos 3 (fun j _=>z3_all (P:=fun z=>0≤z) (by omega) (by have:=hgn.weight1;omega) (by omega) j)
 have hSb:Bb 24 S:=by rw [← hS];exact Bb.prZ (k:=8) 3 (fun j _=>z3_all (P:=Bb 8) (Bb.i64 (by omega) (by omega)) (Bb.i64 (by omega) (by have:=hgn.weight1;omega)) (Bb.i64 (by omega) (by omega)) j)
 have hpr:=nzproduct_den 3 (z3 (sm:Int) (p.weight+1) (((q - 1) / 2:Nat):Int)) (by omega) (fun j=>z3_all (P:=fun z=> -9223372036854775808≤z∧z≤9223372036854775807) (by omega) (by have:=hgn.weight1;omega) (by omega) j)
 rw [hS] at hpr
 have ho:=wOf_den (q:Int) (by omega) (by omega)
 have hbx:∀ e,e<1→(fun e=>takeL 2 (dropL (e*2) (zL S))) e=zL S:=fun e he=>by
  obtain rfl:e=0:=by omega
  rfl
 have hqt:=(nzqt_box_ok (q:Int) 1 z 1 (fun _=>S) (by omega) (by omega) (Fz.i64 (by omega) (by omega)) hz0 hz (by omega) (by omega) (fun _ _=>hS0) (by
  show Fz (0+S+z % (q:Int)*1)
  rw [Int.zero_add,Int.mul_one]
  exact (hSb.add ((Bb.mod (k:=8) (Bb.i64 (by omega) (by omega)) (by omega)).mono (by omega))).fz (by omega)) (by
  show Fz (qtV q 1 z (0+S))
  rw [Int.zero_add]
  exact hF)).boxA _ hbx
 rw [show smZ (fun _=>S) 1=S from Int.zero_add S] at hqt
 clear hsm q5
 refine den_intro (fn:=Tryz.f108) rfl rfl rfl rfl rfl ?_
 refine go ?_
 refine r_callO hv ?_
 refine go ?_
 refine r_call (nzwithin_den (lv:Int) (2) (p.chain.length)) ?_
 refine go ?_
 refine r_call (nzwithin_den (ex:Int) (1) (p.power)) ?_
 refine go ?_
 refine r_call (nzbound_den (decide (z<0)) (strN z.natAbs)) ?_
 refine r_bslF (fun e=>[(tl [.v p,tW (lv:Int) (2) (p.chain.length),tW (ex:Int) (1) (p.power),tB z] e).dF]) ?_ (hf:=tl_ok [.v p,tW (lv:Int) (2) (p.chain.length),tW (ex:Int) (1) (p.power),tB z])
 refine r_eqH (.fz false (List.length [.v p,tW (lv:Int) (2) (p.chain.length),tW (ex:Int) (1) (p.power),tB z]) 1 (fun e=>[(tl [.v p,tW (lv:Int) (2) (p.chain.length),tW (ex:Int) (1) (p.power),tB z] e).dF])) rfl ?_
 refine r_call (require_ok [.v p,tW (lv:Int) (2) (p.chain.length),tW (ex:Int) (1) (p.power),tB z] (Nat.le_of_ble_eq_true rfl) ⟨hp,trivial,trivial,trivial,trivial⟩ hk) ?_
 refine go ?_
 rw [hq]
 refine go ?_
 refine r_call ho ?_
 refine go ?_
 refine r_call hM ?_
 refine go1 ?_
 refine go1 ?_
 refine go1 ?_
 refine go1 ?_
 refine go1 ?_
 refine go1 ?_
 refine r_bslF (iD (z3 (sm:Int) (p.weight+1) (((q - 1) / 2:Nat):Int))) ?_ (hf:=z3_ok _ _ _)
 refine r_eqH (.fz false 3 1 (iD (z3 (sm:Int) (p.weight+1) (((q - 1) / 2:Nat):Int)))) rfl ?_
 refine r_call hpr ?_
 refine go ?_
 refine r_callU 1042 hqt wV_rep ?_
 refine go ?_
 refine fin ?_
 exact cv
theorem down1_no (p:PD) (lv ex sm q:Nat) (z S:Int) (hp:PFit p) (hg:goodB p=true) (l1:2≤lv) (l2:lv≤p.chain.length) (e1:1≤ex) (e2:(ex:Int)≤p.power) (hsm:p.prime ^ ex=sm) (hk:okT [.v p,tW (lv:Int) (2) (p.chain.length),tW (ex:Int) (1) (p.power),tB z]=true) (hz:Fz z) (hz0:0≤z) (hq:p.chain.getD (lv - 1) 0=q) (hS:prZ (z3 (sm:Int) (p.weight+1) (((q - 1) / 2:Nat):Int)) 3=S) (hF:¬ Fz (qtV q 1 z S)) :
  DenX Tryz.prog 108 [.fptr true (parL true p),.fptr true [.val (.int .i64 (lv:Int))],.fptr true [.val (.int .i64 (ex:Int))],.fptr true (zL z)] (flK 7):=by
 obtain ⟨q1,q2,q3,q4,q5⟩:=good_plain hg
 have q6:=q5 ex (by omega)
 have hM:=nzmodulus_den p ex (fun i hi=>(q5 i (by omega)).2) (by omega)
 rw [hsm] at hM q6
 have hv:=nzvalid_den p
 have hw1:=hp.weight1
 have hw2:=hp.weight2
 have hgn:=good_gn hg
 have hch:=hgn.chain (lv - 1) (by omega)
 rw [hq] at hch
 have hll:=hgn.len2
 have hwg:=hgn.weight2
 have hS0:0≤S:=by rw [← hS];exact prZ_pos 3 (fun j _=>z3_all (P:=fun z=>0≤z) (by omega) (by have:=hgn.weight1;omega) (by omega) j)
 have hSb:Bb 24 S:=by rw [← hS];exact Bb.prZ (k:=8) 3 (fun j _=>z3_all (P:=Bb 8) (Bb.i64 (by omega) (by omega)) (Bb.i64 (by omega) (by have:=hgn.weight1;omega)) (Bb.i64 (by omega) (by omega)) j)
 have hpr:=nzproduct_den 3 (z3 (sm:Int) (p.weight+1) (((q - 1) / 2:Nat):Int)) (by omega) (fun j=>z3_all (P:=fun z=> -9223372036854775808≤z∧z≤9223372036854775807) (by omega) (by have:=hgn.weight1;omega) (by omega) j)
 rw [hS] at hpr
 have ho:=wOf_den (q:Int) (by omega) (by omega)
 have hbx:∀ e,e<1→(fun e=>takeL 2 (dropL (e*2) (zL S))) e=zL S:=fun e he=>by
  obtain rfl:e=0:=by omega
  rfl
 have hqt:=(nzqt_box_no (q:Int) 1 z 1 (fun _=>S) (by omega) (by omega) (Fz.i64 (by omega) (by omega)) hz0 hz (by omega) (by omega) (fun _ _=>hS0) (by
  show Fz (0+S+z % (q:Int)*1)
  rw [Int.zero_add,Int.mul_one]
  exact (hSb.add ((Bb.mod (k:=8) (Bb.i64 (by omega) (by omega)) (by omega)).mono (by omega))).fz (by omega)) (by
  show ¬ Fz (qtV q 1 z (0+S))
  rw [Int.zero_add]
  exact hF)).boxA _ hbx
 clear hsm q5
 refine den_introX (fn:=Tryz.f108) rfl rfl ?_
 refine go ?_
 refine r_callO hv ?_
 refine go ?_
 refine r_call (nzwithin_den (lv:Int) (2) (p.chain.length)) ?_
 refine go ?_
 refine r_call (nzwithin_den (ex:Int) (1) (p.power)) ?_
 refine go ?_
 refine r_call (nzbound_den (decide (z<0)) (strN z.natAbs)) ?_
 refine r_bslF (fun e=>[(tl [.v p,tW (lv:Int) (2) (p.chain.length),tW (ex:Int) (1) (p.power),tB z] e).dF]) ?_ (hf:=tl_ok [.v p,tW (lv:Int) (2) (p.chain.length),tW (ex:Int) (1) (p.power),tB z])
 refine r_eqH (.fz false (List.length [.v p,tW (lv:Int) (2) (p.chain.length),tW (ex:Int) (1) (p.power),tB z]) 1 (fun e=>[(tl [.v p,tW (lv:Int) (2) (p.chain.length),tW (ex:Int) (1) (p.power),tB z] e).dF])) rfl ?_
 refine r_call (require_ok [.v p,tW (lv:Int) (2) (p.chain.length),tW (ex:Int) (1) (p.power),tB z] (Nat.le_of_ble_eq_true rfl) ⟨hp,trivial,trivial,trivial,trivial⟩ hk) ?_
 refine go ?_
 rw [hq]
 refine go ?_
 refine r_call ho ?_
 refine go ?_
 refine r_call hM ?_
 refine go1 ?_
 refine go1 ?_
 refine go1 ?_
 refine go1 ?_
 refine go1 ?_
 refine go1 ?_
 refine r_bslF (iD (z3 (sm:Int) (p.weight+1) (((q - 1) / 2:Nat):Int))) ?_ (hf:=z3_ok _ _ _)
 refine r_eqH (.fz false 3 1 (iD (z3 (sm:Int) (p.weight+1) (((q - 1) / 2:Nat):Int)))) rfl ?_
 refine r_call hpr ?_
 refine go ?_
 refine r_callUX 1042 hqt ?_
 refine r_deadE ?_
 refine c_end (by kernel_rfl) ?_
 exact c_deadF
theorem down1_arg (p:PD) (lv ex:Int) (na:Bool) (sa:ByteArray) (hp:PFit p) (hk:okT [.v p,tW lv (2) (p.chain.length),tW ex (1) (p.power),.b na sa]=false) :
  DenX Tryz.prog 108 [.fptr true (parL true p),.fptr true [.val (.int .i64 lv)],.fptr true [.val (.int .i64 ex)],.fptr true [.val (.bool na),.val (.string sa)]] (flK 2):=by
 have hv:=nzvalid_den p
 refine den_introX (fn:=Tryz.f108) rfl rfl ?_
 refine go ?_
 refine r_callO hv ?_
 refine go ?_
 refine r_call (nzwithin_den lv (2) (p.chain.length)) ?_
 refine go ?_
 refine r_call (nzwithin_den ex (1) (p.power)) ?_
 refine go ?_
 refine r_call (nzbound_den na sa) ?_
 refine r_bslF (fun e=>[(tl [.v p,tW lv (2) (p.chain.length),tW ex (1) (p.power),.b na sa] e).dF]) ?_ (hf:=tl_ok [.v p,tW lv (2) (p.chain.length),tW ex (1) (p.power),.b na sa])
 refine r_eqH (.fz false (List.length [.v p,tW lv (2) (p.chain.length),tW ex (1) (p.power),.b na sa]) 1 (fun e=>[(tl [.v p,tW lv (2) (p.chain.length),tW ex (1) (p.power),.b na sa] e).dF])) rfl ?_
 refine r_callX (require_no [.v p,tW lv (2) (p.chain.length),tW ex (1) (p.power),.b na sa] (Nat.le_of_ble_eq_true rfl) ⟨hp,trivial,trivial,trivial,trivial⟩ hk) ?_
 refine c_end (by kernel_rfl) ?_
 exact c_deadF
theorem nzDown_of (p:PD) (lv ex:Int) (na:Bool) (sa:ByteArray) (b:Bool) (s:ByteArray) (e:Int) (h:Den Tryz.prog 78 [.clo 108 [.fptr true (parL true p),.fptr true [.val (.int .i64 lv)],.fptr true [.val (.int .i64 ex)],.fptr true [.val (.bool na),.val (.string sa)]]] (.tup [wS b s,.val (.int .i64 e)])) :
  Den Tryz.prog 32 [.agg (parL true p),wS na sa,.val (.int .i64 lv),.val (.int .i64 ex)] (.tup [wS b s,.val (.int .i64 e)]):=by
 refine den_intro (fn:=Tryz.f32) rfl rfl rfl rfl rfl ?_
 refine go ?_
 refine r_call h ?_
 refine go ?_
 refine fin ?_
 exact cv
theorem nzDown_bad (p:PD) (lv ex:Int) (na:Bool) (sa:ByteArray) (hp:PFit p) (hk:okT [.v p,tW lv (2) (p.chain.length),tW ex (1) (p.power),.b na sa]=false):Den Tryz.prog 32 [.agg (parL true p),wS na sa,.val (.int .i64 lv),.val (.int .i64 ex)] (.tup [wZ,.val (.int .i64 2)]):=nzDown_of p lv ex na sa _ _ _ (calc_no 2 (by omega) (down1_arg p lv ex na sa hp hk))
def downQ (p:PD) (lv:Nat):Nat:=p.chain.getD (lv - 1) 0
def downS (p:PD) (lv ex:Nat):Int:=prZ (z3 ((p.prime ^ ex:Nat):Int) (p.weight+1) (((downQ p lv - 1) / 2:Nat):Int)) 3
structure DownF (p:PD) (lv ex:Nat) (z:Int):Prop where
 good:goodB p=true
 l1:2≤lv
 l2:lv≤p.chain.length
 e1:1≤ex
 e2:(ex:Int)≤p.power
 z0:0≤z
 zf:Fz z
theorem downF_of {p:PD} {lv ex:Nat} {z:Int} (h:okT [.v p,tW (lv:Int) (2) (p.chain.length),tW (ex:Int) (1) (p.power),tB z]=true):DownF p lv ex z:=by
 have a0:goodB p=true:=okT_at h 0 (by simp)
 have a1:=tW_iff.1 (okT_at h 1 (by simp))
 have a2:=tW_iff.1 (okT_at h 2 (by simp))
 obtain ⟨y,y0,yf,y1,_,y3⟩:=tB_iff.1 (okT_at h 3 (by simp))
 have yy:=strN_inj y3
 have y2:=of_decide_eq_false y1
 obtain rfl:z=y:=by omega
 exact ⟨a0,by omega,by omega,by omega,by omega,y0,yf⟩
theorem nzDown_Z (p:PD) (lv ex:Nat) (z:Int) (hp:PFit p) (hk:okT [.v p,tW (lv:Int) (2) (p.chain.length),tW (ex:Int) (1) (p.power),tB z]=true):Den Tryz.prog 32 [.agg (parL true p),zN z,.val (.int .i64 (lv:Int)),.val (.int .i64 (ex:Int))] (resZ (qtV (downQ p lv) 1 z (downS p lv ex))):=by
 have h:=downF_of hk
 by_cases hF:Fz (qtV (downQ p lv) 1 z (downS p lv ex))
 ·rw [resZ_ok hF]
  exact nzDown_of p lv ex _ _ _ _ _ (calc_ok (down1_ok p lv ex _ _ z _ hp h.good h.l1 h.l2 h.e1 h.e2 rfl hk h.zf h.z0 rfl rfl hF))
 ·rw [resZ_no hF]
  exact nzDown_of p lv ex _ _ _ _ _ (calc_no 7 (by omega) (down1_no p lv ex _ _ z _ hp h.good h.l1 h.l2 h.e1 h.e2 rfl hk h.zf h.z0 rfl rfl hF))

instance fi21:FI Tryz.prog 21 Tryz.f21:=⟨Tryz.func21,Tryz.call21⟩
instance fi79:FI Tryz.prog 79 Tryz.f79:=⟨Tryz.func79,Tryz.call79⟩
theorem to1_ok (p:PD) (lv ex sm:Nat) (z n Q S:Int) (hp:PFit p) (hg:goodB p=true) (l1:1≤lv) (l2:lv≤p.chain.length) (e1:1≤ex) (e2:(ex:Int)≤p.power) (hsm:p.prime ^ ex=sm) (hk:okT [.v p,tW (lv:Int) (1) (p.chain.length),tW (ex:Int) (1) (p.power),tB z]=true) (hk2:okT [tW n (3) (2147483647),tW (n.tmod sm) (1) (1)]=true) (hz:Fz z) (hz0:0≤z) (n1:3≤n) (n2:n≤2147483647) (hQ:prZ (chZ p) lv=Q) (hS:prZ (z2 (sm:Int) (p.weight+1)) 2*(Q / 2)=S) (hF:Fz (qtV Q n z S)) :
  Den Tryz.prog 79 [.fptr true (parL true p),.fptr true [.val (.int .i64 (lv:Int))],.fptr true [.val (.int .i64 (ex:Int))],.fptr true (zL z),.fptr true [.val (.int .i64 n)]] (zN (qtV Q n z S)):=by
 obtain ⟨q1,q2,q3,q4,q5⟩:=good_plain hg
 have q6:=q5 ex (by omega)
 have hM:=nzmodulus_den p ex (fun i hi=>(q5 i (by omega)).2) (by omega)
 rw [hsm] at hM q6
 have hv:=nzvalid_den p
 have hw1:=hp.weight1
 have hw2:=hp.weight2
 have hgn:=good_gn hg
 have hll:=hgn.len2
 have hwg:=hgn.weight2
 obtain ⟨hQ1,hQb⟩:=pq_in hgn l2
 have hPr:=parProduct_den p lv hp hg l1 l2
 rw [hQ] at hQ1 hQb hPr
 have hA0:0≤prZ (z2 (sm:Int) (p.weight+1)) 2:=prZ_pos 2 (fun j _=>z2_all (P:=fun z=>0≤z) (by omega) (by have:=hgn.weight1;omega) j)
 have hAb:Bb 16 (prZ (z2 (sm:Int) (p.weight+1)) 2):=Bb.prZ (k:=8) 2 (fun j _=>z2_all (P:=Bb 8) (Bb.i64 (by omega) (by omega)) (Bb.i64 (by omega) (by have:=hgn.weight1;omega)) j)
 have hpr:=nzproduct_den 2 (z2 (sm:Int) (p.weight+1)) (by omega) (fun j=>z2_all (P:=fun z=> -9223372036854775808≤z∧z≤9223372036854775807) (by omega) (by have:=hgn.weight1;omega) j)
 generalize prZ (z2 (sm:Int) (p.weight+1)) 2=A at *
 have hh:=nzhalf_den Q (hQb.fz (by omega)) (by omega)
 have hhb:Bb 96 (Q / 2):=hQb.div (by omega) (by omega)
 have hh0:0≤Q / 2:=by omega
 have hSb:Bb 112 S:=by rw [← hS];exact (hAb.mul hhb).mono (by omega)
 have hS0:0≤S:=by rw [← hS];exact Int.mul_nonneg hA0 hh0
 have hm:=wMul_den A (Q / 2) (hAb.fz (by omega)) (hhb.fz (by omega))
 rw [hS,resZ_ok (hSb.fz (by omega))] at hm
 generalize Q / 2=Qh at *
 have hbx:∀ e,e<1→(fun e=>takeL 2 (dropL (e*2) (zL S))) e=zL S:=fun e he=>by
  obtain rfl:e=0:=by omega
  rfl
 have hqt:=(nzqt_box_ok Q n z 1 (fun _=>S) (by omega) (by omega) (hQb.fz (by omega)) hz0 hz (by omega) (by omega) (fun _ _=>hS0) (by
  show Fz (0+S+z % Q*n)
  rw [Int.zero_add]
  exact (hSb.add (((Bb.mod hQb (by omega)).mul (Bb.i64 (by omega) (by omega))).mono (by omega))).fz (by omega)) (by
  show Fz (qtV Q n z (0+S))
  rw [Int.zero_add]
  exact hF)).boxA _ hbx
 rw [show smZ (fun _=>S) 1=S from Int.zero_add S] at hqt
 clear hsm q5
 refine den_intro (fn:=Tryz.f79) rfl rfl rfl rfl rfl ?_
 refine go ?_
 refine r_callO hv ?_
 refine go ?_
 refine r_call (nzwithin_den (lv:Int) (1) (p.chain.length)) ?_
 refine go ?_
 refine r_call (nzwithin_den (ex:Int) (1) (p.power)) ?_
 refine go ?_
 refine r_call (nzbound_den (decide (z<0)) (strN z.natAbs)) ?_
 refine r_bslF (fun e=>[(tl [.v p,tW (lv:Int) (1) (p.chain.length),tW (ex:Int) (1) (p.power),tB z] e).dF]) ?_ (hf:=tl_ok [.v p,tW (lv:Int) (1) (p.chain.length),tW (ex:Int) (1) (p.power),tB z])
 refine r_eqH (.fz false (List.length [.v p,tW (lv:Int) (1) (p.chain.length),tW (ex:Int) (1) (p.power),tB z]) 1 (fun e=>[(tl [.v p,tW (lv:Int) (1) (p.chain.length),tW (ex:Int) (1) (p.power),tB z] e).dF])) rfl ?_
 refine r_call (require_ok [.v p,tW (lv:Int) (1) (p.chain.length),tW (ex:Int) (1) (p.power),tB z] (Nat.le_of_ble_eq_true rfl) ⟨hp,trivial,trivial,trivial,trivial⟩ hk) ?_
 refine go ?_
 refine r_call hM ?_
 refine go ?_
 refine r_call (nzwithin_den n (3) (2147483647)) ?_
 refine go ?_
 refine r_call (nzwithin_den (n.tmod sm) (1) (1)) ?_
 refine r_bslF (fun e=>[(tl [tW n (3) (2147483647),tW (n.tmod sm) (1) (1)] e).dF]) ?_ (hf:=tl_ok [tW n (3) (2147483647),tW (n.tmod sm) (1) (1)])
 refine r_eqH (.fz false (List.length [tW n (3) (2147483647),tW (n.tmod sm) (1) (1)]) 1 (fun e=>[(tl [tW n (3) (2147483647),tW (n.tmod sm) (1) (1)] e).dF])) rfl ?_
 refine r_call (require_ok [tW n (3) (2147483647),tW (n.tmod sm) (1) (1)] (Nat.le_of_ble_eq_true rfl) ⟨trivial,trivial,trivial⟩ hk2) ?_
 refine go ?_
 refine r_call hPr ?_
 refine go ?_
 refine r_call (nzmust_ok _ _) ?_
 refine gor ?_
 refine goc ?_
 refine c_reg ?_
 refine go1 ?_
 refine go1 ?_
 refine go1 ?_
 refine go1 ?_
 refine go1 ?_
 refine go1 ?_
 refine go1 ?_
 refine r_bslF (iD (z2 (sm:Int) (p.weight+1))) ?_ (hf:=z2_ok _ _)
 refine r_eqH (.fz false 2 1 (iD (z2 (sm:Int) (p.weight+1)))) rfl ?_
 refine r_call hpr ?_
 refine go ?_
 refine r_call hh ?_
 refine go ?_
 refine r_call hm ?_
 refine go ?_
 refine r_call (nzmust_ok _ _) ?_
 refine go ?_
 refine r_callU 1055 hqt wV_rep ?_
 refine go ?_
 refine fin ?_
 exact cv
theorem to1_no (p:PD) (lv ex sm:Nat) (z n Q S:Int) (hp:PFit p) (hg:goodB p=true) (l1:1≤lv) (l2:lv≤p.chain.length) (e1:1≤ex) (e2:(ex:Int)≤p.power) (hsm:p.prime ^ ex=sm) (hk:okT [.v p,tW (lv:Int) (1) (p.chain.length),tW (ex:Int) (1) (p.power),tB z]=true) (hk2:okT [tW n (3) (2147483647),tW (n.tmod sm) (1) (1)]=true) (hz:Fz z) (hz0:0≤z) (n1:3≤n) (n2:n≤2147483647) (hQ:prZ (chZ p) lv=Q) (hS:prZ (z2 (sm:Int) (p.weight+1)) 2*(Q / 2)=S) (hF:¬ Fz (qtV Q n z S)) :
  DenX Tryz.prog 79 [.fptr true (parL true p),.fptr true [.val (.int .i64 (lv:Int))],.fptr true [.val (.int .i64 (ex:Int))],.fptr true (zL z),.fptr true [.val (.int .i64 n)]] (flK 7):=by
 obtain ⟨q1,q2,q3,q4,q5⟩:=good_plain hg
 have q6:=q5 ex (by omega)
 have hM:=nzmodulus_den p ex (fun i hi=>(q5 i (by omega)).2) (by omega)
 rw [hsm] at hM q6
 have hv:=nzvalid_den p
 have hw1:=hp.weight1
 have hw2:=hp.weight2
 have hgn:=good_gn hg
 have hll:=hgn.len2
 have hwg:=hgn.weight2
 obtain ⟨hQ1,hQb⟩:=pq_in hgn l2
 have hPr:=parProduct_den p lv hp hg l1 l2
 rw [hQ] at hQ1 hQb hPr
 have hA0:0≤prZ (z2 (sm:Int) (p.weight+1)) 2:=prZ_pos 2 (fun j _=>z2_all (P:=fun z=>0≤z) (by omega) (by have:=hgn.weight1;omega) j)
 have hAb:Bb 16 (prZ (z2 (sm:Int) (p.weight+1)) 2):=Bb.prZ (k:=8) 2 (fun j _=>z2_all (P:=Bb 8) (Bb.i64 (by omega) (by omega)) (Bb.i64 (by omega) (by have:=hgn.weight1;omega)) j)
 have hpr:=nzproduct_den 2 (z2 (sm:Int) (p.weight+1)) (by omega) (fun j=>z2_all (P:=fun z=> -9223372036854775808≤z∧z≤9223372036854775807) (by omega) (by have:=hgn.weight1;omega) j)
 generalize prZ (z2 (sm:Int) (p.weight+1)) 2=A at *
 have hh:=nzhalf_den Q (hQb.fz (by omega)) (by omega)
 have hhb:Bb 96 (Q / 2):=hQb.div (by omega) (by omega)
 have hh0:0≤Q / 2:=by omega
 have hSb:Bb 112 S:=by rw [← hS];exact (hAb.mul hhb).mono (by omega)
 have hS0:0≤S:=by rw [← hS];exact Int.mul_nonneg hA0 hh0
 have hm:=wMul_den A (Q / 2) (hAb.fz (by omega)) (hhb.fz (by omega))
 rw [hS,resZ_ok (hSb.fz (by omega))] at hm
 generalize Q / 2=Qh at *
 have hbx:∀ e,e<1→(fun e=>takeL 2 (dropL (e*2) (zL S))) e=zL S:=fun e he=>by
  obtain rfl:e=0:=by omega
  rfl
 have hqt:=(nzqt_box_no Q n z 1 (fun _=>S) (by omega) (by omega) (hQb.fz (by omega)) hz0 hz (by omega) (by omega) (fun _ _=>hS0) (by
  show Fz (0+S+z % Q*n)
  rw [Int.zero_add]
  exact (hSb.add (((Bb.mod hQb (by omega)).mul (Bb.i64 (by omega) (by omega))).mono (by omega))).fz (by omega)) (by
  show ¬ Fz (qtV Q n z (0+S))
  rw [Int.zero_add]
  exact hF)).boxA _ hbx
 clear hsm q5
 refine den_introX (fn:=Tryz.f79) rfl rfl ?_
 refine go ?_
 refine r_callO hv ?_
 refine go ?_
 refine r_call (nzwithin_den (lv:Int) (1) (p.chain.length)) ?_
 refine go ?_
 refine r_call (nzwithin_den (ex:Int) (1) (p.power)) ?_
 refine go ?_
 refine r_call (nzbound_den (decide (z<0)) (strN z.natAbs)) ?_
 refine r_bslF (fun e=>[(tl [.v p,tW (lv:Int) (1) (p.chain.length),tW (ex:Int) (1) (p.power),tB z] e).dF]) ?_ (hf:=tl_ok [.v p,tW (lv:Int) (1) (p.chain.length),tW (ex:Int) (1) (p.power),tB z])
 refine r_eqH (.fz false (List.length [.v p,tW (lv:Int) (1) (p.chain.length),tW (ex:Int) (1) (p.power),tB z]) 1 (fun e=>[(tl [.v p,tW (lv:Int) (1) (p.chain.length),tW (ex:Int) (1) (p.power),tB z] e).dF])) rfl ?_
 refine r_call (require_ok [.v p,tW (lv:Int) (1) (p.chain.length),tW (ex:Int) (1) (p.power),tB z] (Nat.le_of_ble_eq_true rfl) ⟨hp,trivial,trivial,trivial,trivial⟩ hk) ?_
 refine go ?_
 refine r_call hM ?_
 refine go ?_
 refine r_call (nzwithin_den n (3) (2147483647)) ?_
 refine go ?_
 refine r_call (nzwithin_den (n.tmod sm) (1) (1)) ?_
 refine r_bslF (fun e=>[(tl [tW n (3) (2147483647),tW (n.tmod sm) (1) (1)] e).dF]) ?_ (hf:=tl_ok [tW n (3) (2147483647),tW (n.tmod sm) (1) (1)])
 refine r_eqH (.fz false (List.length [tW n (3) (2147483647),tW (n.tmod sm) (1) (1)]) 1 (fun e=>[(tl [tW n (3) (2147483647),tW (n.tmod sm) (1) (1)] e).dF])) rfl ?_
 refine r_call (require_ok [tW n (3) (2147483647),tW (n.tmod sm) (1) (1)] (Nat.le_of_ble_eq_true rfl) ⟨trivial,trivial,trivial⟩ hk2) ?_
 refine go ?_
 refine r_call hPr ?_
 refine go ?_
 refine r_call (nzmust_ok _ _) ?_
 refine gor ?_
 refine goc ?_
 refine c_reg ?_
 refine go1 ?_
 refine go1 ?_
 refine go1 ?_
 refine go1 ?_
 refine go1 ?_
 refine go1 ?_
 refine go1 ?_
 refine r_bslF (iD (z2 (sm:Int) (p.weight+1))) ?_ (hf:=z2_ok _ _)
 refine r_eqH (.fz false 2 1 (iD (z2 (sm:Int) (p.weight+1)))) rfl ?_
 refine r_call hpr ?_
 refine go ?_
 refine r_call hh ?_
 refine go ?_
 refine r_call hm ?_
 refine go ?_
 refine r_call (nzmust_ok _ _) ?_
 refine go ?_
 refine r_callUX 1055 hqt ?_
 refine r_deadE ?_
 refine c_end (by kernel_rfl) ?_
 exact c_deadF
theorem to1_arg (p:PD) (lv ex n:Int) (na:Bool) (sa:ByteArray) (hp:PFit p) (hk:okT [.v p,tW lv (1) (p.chain.length),tW ex (1) (p.power),.b na sa]=false) :
  DenX Tryz.prog 79 [.fptr true (parL true p),.fptr true [.val (.int .i64 lv)],.fptr true [.val (.int .i64 ex)],.fptr true [.val (.bool na),.val (.string sa)],.fptr true [.val (.int .i64 n)]] (flK 2):=by
 have hv:=nzvalid_den p
 refine den_introX (fn:=Tryz.f79) rfl rfl ?_
 refine go ?_
 refine r_callO hv ?_
 refine go ?_
 refine r_call (nzwithin_den lv (1) (p.chain.length)) ?_
 refine go ?_
 refine r_call (nzwithin_den ex (1) (p.power)) ?_
 refine go ?_
 refine r_call (nzbound_den na sa) ?_
 refine r_bslF (fun e=>[(tl [.v p,tW lv (1) (p.chain.length),tW ex (1) (p.power),.b na sa] e).dF]) ?_ (hf:=tl_ok [.v p,tW lv (1) (p.chain.length),tW ex (1) (p.power),.b na sa])
 refine r_eqH (.fz false (List.length [.v p,tW lv (1) (p.chain.length),tW ex (1) (p.power),.b na sa]) 1 (fun e=>[(tl [.v p,tW lv (1) (p.chain.length),tW ex (1) (p.power),.b na sa] e).dF])) rfl ?_
 refine r_callX (require_no [.v p,tW lv (1) (p.chain.length),tW ex (1) (p.power),.b na sa] (Nat.le_of_ble_eq_true rfl) ⟨hp,trivial,trivial,trivial,trivial⟩ hk) ?_
 refine c_end (by kernel_rfl) ?_
 exact c_deadF
theorem to1_arg2 (p:PD) (lv ex sm:Nat) (z n:Int) (hp:PFit p) (hg:goodB p=true) (e1:1≤ex) (e2:(ex:Int)≤p.power) (hsm:p.prime ^ ex=sm) (hk:okT [.v p,tW (lv:Int) (1) (p.chain.length),tW (ex:Int) (1) (p.power),tB z]=true) (hk2:okT [tW n (3) (2147483647),tW (n.tmod sm) (1) (1)]=false) :
  DenX Tryz.prog 79 [.fptr true (parL true p),.fptr true [.val (.int .i64 (lv:Int))],.fptr true [.val (.int .i64 (ex:Int))],.fptr true (zL z),.fptr true [.val (.int .i64 n)]] (flK 2):=by
 obtain ⟨q1,q2,q3,q4,q5⟩:=good_plain hg
 have q6:=q5 ex (by omega)
 have hM:=nzmodulus_den p ex (fun i hi=>(q5 i (by omega)).2) (by omega)
 rw [hsm] at hM q6
 have hv:=nzvalid_den p
 have hw1:=hp.weight1
 have hw2:=hp.weight2
 clear hsm q5
 refine den_introX (fn:=Tryz.f79) rfl rfl ?_
 refine go ?_
 refine r_callO hv ?_
 refine go ?_
 refine r_call (nzwithin_den (lv:Int) (1) (p.chain.length)) ?_
 refine go ?_
 refine r_call (nzwithin_den (ex:Int) (1) (p.power)) ?_
 refine go ?_
 refine r_call (nzbound_den (decide (z<0)) (strN z.natAbs)) ?_
 refine r_bslF (fun e=>[(tl [.v p,tW (lv:Int) (1) (p.chain.length),tW (ex:Int) (1) (p.power),tB z] e).dF]) ?_ (hf:=tl_ok [.v p,tW (lv:Int) (1) (p.chain.length),tW (ex:Int) (1) (p.power),tB z])
 refine r_eqH (.fz false (List.length [.v p,tW (lv:Int) (1) (p.chain.length),tW (ex:Int) (1) (p.power),tB z]) 1 (fun e=>[(tl [.v p,tW (lv:Int) (1) (p.chain.length),tW (ex:Int) (1) (p.power),tB z] e).dF])) rfl ?_
 refine r_call (require_ok [.v p,tW (lv:Int) (1) (p.chain.length),tW (ex:Int) (1) (p.power),tB z] (Nat.le_of_ble_eq_true rfl) ⟨hp,trivial,trivial,trivial,trivial⟩ hk) ?_
 refine go ?_
 refine r_call hM ?_
 refine go ?_
 refine r_call (nzwithin_den n (3) (2147483647)) ?_
 refine go ?_
 refine r_call (nzwithin_den (n.tmod sm) (1) (1)) ?_
 refine r_bslF (fun e=>[(tl [tW n (3) (2147483647),tW (n.tmod sm) (1) (1)] e).dF]) ?_ (hf:=tl_ok [tW n (3) (2147483647),tW (n.tmod sm) (1) (1)])
 refine r_eqH (.fz false (List.length [tW n (3) (2147483647),tW (n.tmod sm) (1) (1)]) 1 (fun e=>[(tl [tW n (3) (2147483647),tW (n.tmod sm) (1) (1)] e).dF])) rfl ?_
 refine r_callX (require_no [tW n (3) (2147483647),tW (n.tmod sm) (1) (1)] (Nat.le_of_ble_eq_true rfl) ⟨trivial,trivial,trivial⟩ hk2) ?_
 refine c_end (by kernel_rfl) ?_
 exact c_deadF
theorem nzTo_of (p:PD) (lv ex n:Int) (na:Bool) (sa:ByteArray) (b:Bool) (s:ByteArray) (e:Int) (h:Den Tryz.prog 78 [.clo 79 [.fptr true (parL true p),.fptr true [.val (.int .i64 lv)],.fptr true [.val (.int .i64 ex)],.fptr true [.val (.bool na),.val (.string sa)],.fptr true [.val (.int .i64 n)]]] (.tup [wS b s,.val (.int .i64 e)])) :
  Den Tryz.prog 21 [.agg (parL true p),wS na sa,.val (.int .i64 lv),.val (.int .i64 ex),.val (.int .i64 n)] (.tup [wS b s,.val (.int .i64 e)]):=by
 refine den_intro (fn:=Tryz.f21) rfl rfl rfl rfl rfl ?_
 refine go ?_
 refine r_call h ?_
 refine go ?_
 refine fin ?_
 exact cv
theorem nzTo_bad (p:PD) (lv ex n:Int) (na:Bool) (sa:ByteArray) (hp:PFit p) (hk:okT [.v p,tW lv (1) (p.chain.length),tW ex (1) (p.power),.b na sa]=false):Den Tryz.prog 21 [.agg (parL true p),wS na sa,.val (.int .i64 lv),.val (.int .i64 ex),.val (.int .i64 n)] (.tup [wZ,.val (.int .i64 2)]):=nzTo_of p lv ex n na sa _ _ _ (calc_no 2 (by omega) (to1_arg p lv ex n na sa hp hk))
def toS (p:PD) (lv ex:Nat):Int:=prZ (z2 ((p.prime ^ ex:Nat):Int) (p.weight+1)) 2*(prZ (chZ p) lv / 2)
structure LvF (p:PD) (lv ex:Nat) (z:Int):Prop where
 good:goodB p=true
 l1:1≤lv
 l2:lv≤p.chain.length
 e1:1≤ex
 e2:(ex:Int)≤p.power
 z0:0≤z
 zf:Fz z
theorem lvF_of {p:PD} {lv ex:Nat} {z:Int} (h:okT [.v p,tW (lv:Int) (1) (p.chain.length),tW (ex:Int) (1) (p.power),tB z]=true):LvF p lv ex z:=by
 have a0:goodB p=true:=okT_at h 0 (by simp)
 have a1:=tW_iff.1 (okT_at h 1 (by simp))
 have a2:=tW_iff.1 (okT_at h 2 (by simp))
 obtain ⟨y,y0,yf,y1,_,y3⟩:=tB_iff.1 (okT_at h 3 (by simp))
 have yy:=strN_inj y3
 have y2:=of_decide_eq_false y1
 obtain rfl:z=y:=by omega
 exact ⟨a0,by omega,by omega,by omega,by omega,y0,yf⟩
theorem nzTo_bad2 (p:PD) (lv ex:Nat) (z n:Int) (hp:PFit p) (hk:okT [.v p,tW (lv:Int) (1) (p.chain.length),tW (ex:Int) (1) (p.power),tB z]=true) (hk2:okT [tW n (3) (2147483647),tW (n.tmod ((p.prime ^ ex:Nat):Int)) (1) (1)]=false):Den Tryz.prog 21 [.agg (parL true p),zN z,.val (.int .i64 (lv:Int)),.val (.int .i64 (ex:Int)),.val (.int .i64 n)] (.tup [wZ,.val (.int .i64 2)]):=
 nzTo_of p lv ex n _ _ _ _ _ (calc_no 2 (by omega) (to1_arg2 p lv ex _ z n hp (lvF_of hk).good (lvF_of hk).e1 (lvF_of hk).e2 rfl hk hk2))
theorem nzTo_Z (p:PD) (lv ex:Nat) (z n:Int) (hp:PFit p) (hk:okT [.v p,tW (lv:Int) (1) (p.chain.length),tW (ex:Int) (1) (p.power),tB z]=true) (hk2:okT [tW n (3) (2147483647),tW (n.tmod ((p.prime ^ ex:Nat):Int)) (1) (1)]=true):Den Tryz.prog 21 [.agg (parL true p),zN z,.val (.int .i64 (lv:Int)),.val (.int .i64 (ex:Int)),.val (.int .i64 n)] (resZ (qtV (prZ (chZ p) lv) n z (toS p lv ex))):=by
 have h:=lvF_of hk
 have hn:=tW_iff.1 (okT_at hk2 0 (by simp))
 by_cases hF:Fz (qtV (prZ (chZ p) lv) n z (toS p lv ex))
 ·rw [resZ_ok hF]
  exact nzTo_of p lv ex n _ _ _ _ _ (calc_ok (to1_ok p lv ex _ z n _ _ hp h.good h.l1 h.l2 h.e1 h.e2 rfl hk hk2 h.zf h.z0 hn.1 hn.2 rfl rfl hF))
 ·rw [resZ_no hF]
  exact nzTo_of p lv ex n _ _ _ _ _ (calc_no 7 (by omega) (to1_no p lv ex _ z n _ _ hp h.good h.l1 h.l2 h.e1 h.e2 rfl hk hk2 h.zf h.z0 hn.1 hn.2 rfl rfl hF))

instance fi39:FI Tryz.prog 39 Tryz.f39:=⟨Tryz.func39,Tryz.call39⟩
instance fi115:FI Tryz.prog 115 Tryz.f115:=⟨Tryz.func115,Tryz.call115⟩
theorem fits1_ok (p:PD) (lv:Nat) (z Q:Int) (hp:PFit p) (hg:goodB p=true) (l1:1≤lv) (l2:lv≤p.chain.length) (hk:okT [.v p,tW (lv:Int) (1) (p.chain.length),tB z]=true) (hQ:prZ (chZ p) lv=Q) :
  Den Tryz.prog 115 [.fptr true (parL true p),.fptr true [.val (.int .i64 (lv:Int))],.fptr true (zL z)] (zN (Q / 2)):=by
 have hgn:=good_gn hg
 have hv:=nzvalid_den p
 have hll:=hgn.len2
 obtain ⟨hQ1,hQb⟩:=pq_in hgn l2
 have hPr:=parProduct_den p lv hp hg l1 l2
 rw [hQ] at hQ1 hQb hPr
 have hh:=nzhalf_den Q (hQb.fz (by omega)) (by omega)
 generalize Q / 2=Qh at *
 refine den_intro (fn:=Tryz.f115) rfl rfl rfl rfl rfl ?_
 refine go ?_
 refine r_callO hv ?_
 refine go ?_
 refine r_call (nzwithin_den (lv:Int) (1) (p.chain.length)) ?_
 refine go ?_
 refine r_call (nzbound_den (decide (z<0)) (strN z.natAbs)) ?_
 refine r_bslF (fun e=>[(tl [.v p,tW (lv:Int) (1) (p.chain.length),tB z] e).dF]) ?_ (hf:=tl_ok [.v p,tW (lv:Int) (1) (p.chain.length),tB z])
 refine r_eqH (.fz false (List.length [.v p,tW (lv:Int) (1) (p.chain.length),tB z]) 1 (fun e=>[(tl [.v p,tW (lv:Int) (1) (p.chain.length),tB z] e).dF])) rfl ?_
 refine r_call (require_ok [.v p,tW (lv:Int) (1) (p.chain.length),tB z] (Nat.le_of_ble_eq_true rfl) ⟨hp,trivial,trivial,trivial⟩ hk) ?_
 refine go ?_
 refine r_call hPr ?_
 refine go ?_
 refine r_call (nzmust_ok _ _) ?_
 refine go ?_
 refine r_call hh ?_
 refine go ?_
 refine fin ?_
 exact cv
theorem fits1_arg (p:PD) (lv:Int) (na:Bool) (sa:ByteArray) (hp:PFit p) (hk:okT [.v p,tW lv (1) (p.chain.length),.b na sa]=false) :
  DenX Tryz.prog 115 [.fptr true (parL true p),.fptr true [.val (.int .i64 lv)],.fptr true [.val (.bool na),.val (.string sa)]] (flK 2):=by
 have hv:=nzvalid_den p
 refine den_introX (fn:=Tryz.f115) rfl rfl ?_
 refine go ?_
 refine r_callO hv ?_
 refine go ?_
 refine r_call (nzwithin_den lv (1) (p.chain.length)) ?_
 refine go ?_
 refine r_call (nzbound_den na sa) ?_
 refine r_bslF (fun e=>[(tl [.v p,tW lv (1) (p.chain.length),.b na sa] e).dF]) ?_ (hf:=tl_ok [.v p,tW lv (1) (p.chain.length),.b na sa])
 refine r_eqH (.fz false (List.length [.v p,tW lv (1) (p.chain.length),.b na sa]) 1 (fun e=>[(tl [.v p,tW lv (1) (p.chain.length),.b na sa] e).dF])) rfl ?_
 refine r_callX (require_no [.v p,tW lv (1) (p.chain.length),.b na sa] (Nat.le_of_ble_eq_true rfl) ⟨hp,trivial,trivial,trivial⟩ hk) ?_
 refine c_end (by kernel_rfl) ?_
 exact c_deadF
theorem nzFits_bad (p:PD) (lv:Int) (na:Bool) (sa:ByteArray) (hp:PFit p) (hk:okT [.v p,tW lv (1) (p.chain.length),.b na sa]=false):Den Tryz.prog 39 [.agg (parL true p),wS na sa,.val (.int .i64 lv)] (.tup [.val (.bool false),.val (.int .i64 2)]):=by
 have h:Den Tryz.prog 78 [.clo 115 [.fptr true (parL true p),.fptr true [.val (.int .i64 lv)],.fptr true [.val (.bool na),.val (.string sa)]]] (.tup [wZ,.val (.int .i64 2)]):=calc_no 2 (by omega) (fits1_arg p lv na sa hp hk)
 refine den_intro (fn:=Tryz.f39) rfl rfl rfl rfl rfl ?_
 refine go ?_
 refine r_call h ?_
 refine go ?_
 refine fin ?_
 exact cv
theorem nzFits_Z (p:PD) (lv:Nat) (z:Int) (hp:PFit p) (hk:okT [.v p,tW (lv:Int) (1) (p.chain.length),tB z]=true):Den Tryz.prog 39 [.agg (parL true p),zN z,.val (.int .i64 (lv:Int))] (.tup [.val (.bool (decide (cmpZ z (prZ (chZ p) lv / 2)≤0))),.val (.int .i64 0)]):=by
 have hg:goodB p=true:=okT_at hk 0 (by simp)
 have a1:=tW_iff.1 (okT_at hk 1 (by simp))
 obtain ⟨y,y0,yf,y1,_,y3⟩:=tB_iff.1 (okT_at hk 2 (by simp))
 have yy:=strN_inj y3
 have y2:=of_decide_eq_false y1
 obtain rfl:z=y:=by omega
 have hgn:=good_gn hg
 obtain ⟨hQ1,hQb⟩:=pq_in hgn (lv:=lv) (by omega)
 have h:Den Tryz.prog 78 [.clo 115 [.fptr true (parL true p),.fptr true [.val (.int .i64 (lv:Int))],.fptr true (zL z)]] (.tup [zN (prZ (chZ p) lv / 2),.val (.int .i64 0)]):=calc_ok (fits1_ok p lv z _ hp hg (by omega) (by omega) hk rfl)
 have hc:=wCmp_den z (prZ (chZ p) lv / 2) yf ((hQb.div (by omega) (by omega)).fz (by omega))
 generalize prZ (chZ p) lv / 2=Qh at *
 generalize cmpZ z Qh=c at *
 refine den_intro (fn:=Tryz.f39) rfl rfl rfl rfl rfl ?_
 refine go ?_
 refine r_call h ?_
 refine go ?_
 refine r_call hc ?_
 refine go ?_
 refine fin ?_
 exact cv

instance fi36:FI Tryz.prog 36 Tryz.f36:=⟨Tryz.func36,Tryz.call36⟩
instance fi112:FI Tryz.prog 112 Tryz.f112:=⟨Tryz.func112,Tryz.call112⟩
def z4 (x y z u:Int):Nat→Int | 0=>x | 1=>y | 2=>z | _=>u
theorem z4_all {P:Int→Prop} {x y z u:Int} (hx:P x) (hy:P y) (hz:P z) (hu:P u) (j:Nat):P (z4 x y z u j):=by
 unfold z4;split<;>assumption
theorem z4_ok (x y z u : Int) : ∀ e, e < 4 → (iD (z4 x y z u) e).length = 1 ∧ ∀ c, c < 1 → dl (iD (z4 x y z u) e) c = dl [.val (.int .i64 x), .val (.int .i64 y), .val (.int .i64 z), .val (.int .i64 u)] (e * 1 + c) := by
  intro e he
  obtain rfl | rfl | rfl | rfl : e = 0 ∨ e = 1 ∨ e = 2 ∨ e = 3 := by omega
  · exact ⟨rfl, fun c hc => by obtain rfl : c = 0 := by omega
                               rfl⟩
  · exact ⟨rfl, fun c hc => by obtain rfl : c = 0 := by omega
                               rfl⟩
  · exact ⟨rfl, fun c hc => by obtain rfl : c = 0 := by omega
                               rfl⟩
  · exact ⟨rfl, fun c hc => by obtain rfl : c = 0 := by omega
                               rfl⟩
def exT (p:PD) (sm tm:Nat):Nat→Int
 | 0=>prZ (z3 (sm:Int) (p.weight+1) (((p.special - 1) / 2:Nat):Int)) 3
 | j+1=>prZ (z4 (tm:Int) p.n (p.err:Int) (((p.chain.getD j 0 - 1) / 2:Nat):Int)) 4
theorem exT_in {p:PD} {sm tm lv:Nat} (g:Gn p) (h1:sm≤2147483647) (h2:tm≤2147483647) (hl:lv≤p.chain.length):∀ j,j<lv+1→0≤exT p sm tm j∧Bb 32 (exT p sm tm j):=by
 have g1:=g.weight1
 have g2:=g.weight2
 have g3:=g.err
 have g4:=g.special
 have g5:=g.n1
 have g6:=g.n2
 intro j hj
 cases j with
 | zero=>
  refine ⟨prZ_pos 3 (fun j _=>z3_all (P:=fun z=>0≤z) (by omega) (by omega) (by omega) j),(Bb.prZ (k:=8) 3 (fun j _=>z3_all (P:=Bb 8) (Bb.i64 (by omega) (by omega)) (Bb.i64 (by omega) (by omega)) (Bb.i64 (by omega) (by omega)) j)).mono (by omega)⟩
 | succ j=>
  have g7:=g.chain j (by omega)
  refine ⟨prZ_pos 4 (fun j _=>z4_all (P:=fun z=>0≤z) (by omega) (by omega) (by omega) (by omega) j),(Bb.prZ (k:=8) 4 (fun j _=>z4_all (P:=Bb 8) (Bb.i64 (by omega) (by omega)) (Bb.i64 (by omega) (by omega)) (Bb.i64 (by omega) (by omega)) (Bb.i64 (by omega) (by omega)) j)).mono (by omega)⟩
def exB (p:PD) (sm:Nat):Int:=prZ (z2 (p.special:Int) (sm:Int)) 2
def exV (p:PD) (lv sm tm:Nat):Int:=smZ (exT p sm tm) (lv+1) / exB p sm*sm
theorem exB_in {p:PD} {sm:Nat} (g:Gn p) (h0:1≤sm) (h1:sm≤2147483647):0<exB p sm∧Bb 16 (exB p sm):=by
 have g4:=g.special
 refine ⟨?_,Bb.prZ (k:=8) 2 (fun j _=>z2_all (P:=Bb 8) (Bb.i64 (by omega) (by omega)) (Bb.i64 (by omega) (by omega)) j)⟩
 have:=prZ_pos1 (x:=z2 (p.special:Int) (sm:Int)) 2 (fun j _=>z2_all (P:=fun z=>1≤z) (by omega) (by omega) j)
 show 0<prZ _ 2
 omega
theorem exS_in {p:PD} {sm tm lv:Nat} (g:Gn p) (h1:sm≤2147483647) (h2:tm≤2147483647) (hl:lv≤p.chain.length):0≤smZ (exT p sm tm) (lv+1)∧Bb 33 (smZ (exT p sm tm) (lv+1)):=by
 have g0:=g.len2
 have hx:=exT_in (p:=p) g h1 h2 hl
 exact ⟨smZ_pos _ (fun j hj=>(hx j hj).1),Bb.smZ (by omega) (fun j hj=>(hx j hj).2)⟩
theorem extra1_ok (p:PD) (lv ex sm tm:Nat) (hp:PFit p) (hg:goodB p=true) (l1:1≤lv) (l2:lv≤p.chain.length) (e1:1≤ex) (e2:(ex:Int)≤p.power) (hsm:p.prime ^ ex=sm) (htm:p.prime ^ p.power.toNat=tm) (hk:okT [.v p,tW (lv:Int) (1) (p.chain.length),tW (ex:Int) (1) (p.power)]=true) :
  Den Tryz.prog 112 [.fptr true (parL true p),.fptr true [.val (.int .i64 (lv:Int))],.fptr true [.val (.int .i64 (ex:Int))]] (zN (exV p lv sm tm)):=by
 obtain ⟨q1,q2,q3,q4,q5⟩:=good_plain hg
 have q6:=q5 ex (by omega)
 have hM:=nzmodulus_den p ex (fun i hi=>(q5 i (by omega)).2) (by omega)
 rw [hsm] at hM q6
 have hv:=nzvalid_den p
 have hw1:=hp.weight1
 have hw2:=hp.weight2
 have q7:=q5 p.power.toNat (by omega)
 have hM2:=nzmodulus_den p p.power.toNat (fun i hi=>(q5 i hi).2) (by omega)
 rw [show ((p.power.toNat:Nat):Int)=p.power by omega] at hM2
 rw [htm] at hM2 q7
 have hgn:=good_gn hg
 have hpe:=hp.err
 have g0:=hgn.len2
 have g1:=hgn.weight1
 have g2:=hgn.weight2
 have g3:=hgn.err
 have g4:=hgn.special
 have g5:=hgn.n1
 have g6:=hgn.n2
 have hT:=exT_in (p:=p) (sm:=sm) (tm:=tm) (lv:=lv) hgn (by omega) (by omega) l2
 have hS:=exS_in (p:=p) (sm:=sm) (tm:=tm) (lv:=lv) hgn (by omega) (by omega) l2
 have hB:=exB_in (p:=p) (sm:=sm) hgn (by omega) (by omega)
 have h0:=wOf_den 0 (by omega) (by omega)
 have hs:=wOf_den (sm:Int) (by omega) (by omega)
 have hpr:Den Tryz.prog 89 [.fz true 3 1 (iD (z3 (sm:Int) (p.weight+1) (((p.special - 1) / 2:Nat):Int)))] (zN (exT p sm tm 0)):=nzproduct_den 3 _ (by omega) (fun j=>z3_all (P:=fun z=> -9223372036854775808≤z∧z≤9223372036854775807) (by omega) (by omega) (by omega) j)
 have hpj:∀ j,j<lv→Den Tryz.prog 89 [.fz true 4 1 (iD (z4 (tm:Int) p.n (p.err:Int) (((p.chain.getD j 0 - 1) / 2:Nat):Int)))] (zN (exT p sm tm (j+1))):=fun j hj=>nzproduct_den 4 _ (by omega) (fun i=>z4_all (P:=fun z=> -9223372036854775808≤z∧z≤9223372036854775807) (by omega) (by omega) (by omega) (by have:=hgn.chain j (by omega);omega) i)
 have hpb:Den Tryz.prog 89 [.fz true 2 1 (iD (z2 (p.special:Int) (sm:Int)))] (zN (exB p sm)):=nzproduct_den 2 _ (by omega) (fun j=>z2_all (P:=fun z=> -9223372036854775808≤z∧z≤9223372036854775807) (by omega) (by omega) j)
 have hqv:qtV (exB p sm) 1 0 (smZ (exT p sm tm) (lv+1))=smZ (exT p sm tm) (lv+1) / exB p sm:=by
  rw [qtV_eq hB.1];congr 1;omega
 have hqf:Bb 33 (smZ (exT p sm tm) (lv+1) / exB p sm):=hS.2.div hS.1 (by omega)
 have hqt:=nzqt_box_ok (exB p sm) 1 0 (lv+1) (exT p sm tm) (by omega) hB.1 (hB.2.fz (by omega)) (by omega) (by decide) (by omega) (by omega) (fun j hj=>(hT j hj).1) (by rw [Int.zero_emod,Int.zero_mul,Int.add_zero];exact hS.2.fz (by omega)) (by rw [hqv];exact hqf.fz (by omega))
 rw [hqv] at hqt
 have hmu:=wMul_den (smZ (exT p sm tm) (lv+1) / exB p sm) (sm:Int) (hqf.fz (by omega)) (Fz.i64 (by omega) (by omega))
 rw [resZ_ok ((hqf.mul (Bb.i64 (z:=(sm:Int)) (by omega) (by omega))).fz (by omega))] at hmu
 unfold exV
 generalize smZ (exT p sm tm) (lv+1) / exB p sm=X at *
 generalize hXs:X*(sm:Int)=Y at *
 generalize exB p sm=B at *
 generalize exT p sm tm=xE at *
 clear hsm htm q5 hS hT hXs
 refine den_intro (fn:=Tryz.f112) rfl rfl rfl rfl rfl ?_
 refine go ?_
 refine r_callO hv ?_
 refine go ?_
 refine r_call (nzwithin_den (lv:Int) (1) (p.chain.length)) ?_
 refine go ?_
 refine r_call (nzwithin_den (ex:Int) (1) (p.power)) ?_
 refine r_bslF (fun e=>[(tl [.v p,tW (lv:Int) (1) (p.chain.length),tW (ex:Int) (1) (p.power)] e).dF]) ?_ (hf:=tl_ok [.v p,tW (lv:Int) (1) (p.chain.length),tW (ex:Int) (1) (p.power)])
 refine r_eqH (.fz false (List.length [.v p,tW (lv:Int) (1) (p.chain.length),tW (ex:Int) (1) (p.power)]) 1 (fun e=>[(tl [.v p,tW (lv:Int) (1) (p.chain.length),tW (ex:Int) (1) (p.power)] e).dF])) rfl ?_
 refine r_call (require_ok [.v p,tW (lv:Int) (1) (p.chain.length),tW (ex:Int) (1) (p.power)] (Nat.le_of_ble_eq_true rfl) ⟨hp,trivial,trivial,trivial⟩ hk) ?_
 refine go ?_
 refine r_call hM ?_
 refine gor ?_
 refine goc ?_
 refine c_reg ?_
 refine go1 ?_
 refine go1 ?_
 refine go1 ?_
 refine go1 ?_
 refine go1 ?_
 refine go1 ?_
 refine go1 ?_
 refine r_bslF (iD (z3 (sm:Int) (p.weight+1) (((p.special - 1) / 2:Nat):Int))) ?_ (hf:=z3_ok _ _ _)
 refine r_eqH (.fz false 3 1 (iD (z3 (sm:Int) (p.weight+1) (((p.special - 1) / 2:Nat):Int)))) rfl ?_
 refine r_call hpr ?_
 refine go ?_
 refine c_less [38,37,36,35,34,33,32,31,30,29,28,27,26,25,24,23,22,21,20] ?_
 refine c_eq 43 (.val (.int .i64 (lv:Int))) (d:=.val (.int .i64 ((lv - 0:Nat):Int))) (by rw [Nat.sub_zero]) ?_
 refine c_eq 42 (.fz true lv 1 (fun e=>[.val (.int .u32 ((p.chain.getD e 0:Nat):Int))])) (d:=.fz true (lv - 0) 1 (fun e=>[.val (.int .u32 ((p.chain.getD (0+e) 0:Nat):Int))])) (by rw [Nat.sub_zero];simp only [Nat.zero_add]) ?_
 refine c_arr 1038 (m:=2) (n:=1) (fun e=>zL (xE e)) ?he (fun _=>rfl) ?_
 case he=>
  intro e he
  have e0:e=0:=by omega
  subst e0
  rfl
 refine c_up lv (fun i=>[(44,.val (.int .i64 (i:Nat))),(6,.sl 1038 2 (i+1))]) (fun i=>[(1038,some (.arr 42 (i+1) 2 (fun j=>zL (xE j))))]) (fun i hi=>?_)
 refine go ?_
 refine c_if (fun h=>?_) (fun h=>?_)
 ·have hpi:=hpj i h
  have hpc:=hp.chain i (by omega)
  have hci:=hgn.chain i (by omega)
  refine goc ?_
  refine c_reg ?_
  refine gor ?_
  refine goc ?_
  refine c_reg ?_
  refine go1 ?_
  refine go1 ?_
  refine go1 ?_
  refine go1 ?_
  refine r_call hM2 ?_
  refine go1 ?_
  refine go1 ?_
  refine go1 ?_
  refine go1 ?_
  refine go1 ?_
  refine go1 ?_
  refine go1 ?_
  refine go1 ?_
  refine go1 ?_
  refine r_bslF (iD (z4 (tm:Int) p.n (p.err:Int) (((p.chain.getD i 0 - 1) / 2:Nat):Int))) ?_ (hf:=z4_ok _ _ _ _)
  refine r_eqH (.fz false 4 1 (iD (z4 (tm:Int) p.n (p.err:Int) (((p.chain.getD i 0 - 1) / 2:Nat):Int)))) rfl ?_
  refine r_call hpi ?_
  refine go ?_
  refine ⟨h,?_⟩
  refine sub_arr 1065 (fun e=>zL (xE e)) (appF_snoc rfl) (fun _=>rfl) ?_
  refine sub_toL [48] 1065 1038 ?_
  exact sub
 ·obtain rfl:i=lv:=by omega
  refine goc ?_
  refine c_reg ?_
  refine go1 ?_
  refine go1 ?_
  refine r_bslF (iD (z2 (p.special:Int) (sm:Int))) ?_ (hf:=z2_ok _ _)
  refine r_eqH (.fz false 2 1 (iD (z2 (p.special:Int) (sm:Int)))) rfl ?_
  refine r_call hpb ?_
  refine go ?_
  refine r_call h0 ?_
  refine go1 ?_
  refine r_callU 1038 hqt wV_rep ?_
  refine go ?_
  refine r_call hs ?_
  refine go ?_
  refine r_call hmu ?_
  refine go ?_
  refine r_call (nzmust_ok _ _) ?_
  refine go ?_
  refine fin ?_
  exact cv
theorem extra1_arg (p:PD) (lv ex:Int) (hp:PFit p) (hk:okT [.v p,tW lv (1) (p.chain.length),tW ex (1) (p.power)]=false) :
  DenX Tryz.prog 112 [.fptr true (parL true p),.fptr true [.val (.int .i64 lv)],.fptr true [.val (.int .i64 ex)]] (flK 2):=by
 have hv:=nzvalid_den p
 refine den_introX (fn:=Tryz.f112) rfl rfl ?_
 refine go ?_
 refine r_callO hv ?_
 refine go ?_
 refine r_call (nzwithin_den lv (1) (p.chain.length)) ?_
 refine go ?_
 refine r_call (nzwithin_den ex (1) (p.power)) ?_
 refine r_bslF (fun e=>[(tl [.v p,tW lv (1) (p.chain.length),tW ex (1) (p.power)] e).dF]) ?_ (hf:=tl_ok [.v p,tW lv (1) (p.chain.length),tW ex (1) (p.power)])
 refine r_eqH (.fz false (List.length [.v p,tW lv (1) (p.chain.length),tW ex (1) (p.power)]) 1 (fun e=>[(tl [.v p,tW lv (1) (p.chain.length),tW ex (1) (p.power)] e).dF])) rfl ?_
 refine r_callX (require_no [.v p,tW lv (1) (p.chain.length),tW ex (1) (p.power)] (Nat.le_of_ble_eq_true rfl) ⟨hp,trivial,trivial,trivial⟩ hk) ?_
 refine c_end (by kernel_rfl) ?_
 exact c_deadF
theorem nzExtra_of (p:PD) (lv ex:Int) (b:Bool) (s:ByteArray) (e:Int) (h:Den Tryz.prog 78 [.clo 112 [.fptr true (parL true p),.fptr true [.val (.int .i64 lv)],.fptr true [.val (.int .i64 ex)]]] (.tup [wS b s,.val (.int .i64 e)])) :
  Den Tryz.prog 36 [.agg (parL true p),.val (.int .i64 lv),.val (.int .i64 ex)] (.tup [wS b s,.val (.int .i64 e)]):=by
 refine den_intro (fn:=Tryz.f36) rfl rfl rfl rfl rfl ?_
 refine go ?_
 refine r_call h ?_
 refine go ?_
 refine fin ?_
 exact cv
theorem nzExtra_bad (p:PD) (lv ex:Int) (hp:PFit p) (hk:okT [.v p,tW lv (1) (p.chain.length),tW ex (1) (p.power)]=false):Den Tryz.prog 36 [.agg (parL true p),.val (.int .i64 lv),.val (.int .i64 ex)] (.tup [wZ,.val (.int .i64 2)]):=nzExtra_of p lv ex _ _ _ (calc_no 2 (by omega) (extra1_arg p lv ex hp hk))
theorem nzExtra_Z (p:PD) (lv ex:Nat) (hp:PFit p) (hk:okT [.v p,tW (lv:Int) (1) (p.chain.length),tW (ex:Int) (1) (p.power)]=true):Den Tryz.prog 36 [.agg (parL true p),.val (.int .i64 (lv:Int)),.val (.int .i64 (ex:Int))] (.tup [zN (exV p lv (p.prime ^ ex) (p.prime ^ p.power.toNat)),.val (.int .i64 0)]):=by
 have hg:goodB p=true:=okT_at hk 0 (by simp)
 have a1:=tW_iff.1 (okT_at hk 1 (by simp))
 have a2:=tW_iff.1 (okT_at hk 2 (by simp))
 exact nzExtra_of p lv ex _ _ _ (calc_ok (extra1_ok p lv ex _ _ hp hg (by omega) (by omega) (by omega) (by omega) rfl rfl hk))

instance fi187:FI Tryz.prog 187 Tryz.f187:=⟨Tryz.func187,Tryz.call187⟩
instance fi95:FI Tryz.prog 95 Tryz.f95:=⟨Tryz.func95,Tryz.call95⟩
instance fi96:FI Tryz.prog 96 Tryz.f96:=⟨Tryz.func96,Tryz.call96⟩
instance fi91:FI Tryz.prog 91 Tryz.f91:=⟨Tryz.func91,Tryz.call91⟩
instance fi92:FI Tryz.prog 92 Tryz.f92:=⟨Tryz.func92,Tryz.call92⟩
instance fi101:FI Tryz.prog 101 Tryz.f101:=⟨Tryz.func101,Tryz.call101⟩
theorem r15plus_den (a b:Int) (ha:Fz a) (hb:Fz b) (hF:Fz (a+b)):Den Tryz.prog 187 [zN a,zN b] (zN (a+b)):=by
 have h:=r2Add_den a b ha hb
 rw [resZ_ok hF] at h
 generalize a+b=c at *
 refine den_intro (fn:=Tryz.f187) rfl rfl rfl rfl rfl ?_
 refine go ?_
 refine r_call h ?_
 refine go ?_
 refine fin ?_
 exact cv
theorem r15times_den (a b:Int) (ha:Fz a) (hb:Fz b) (hF:Fz (a*b)):Den Tryz.prog 95 [zN a,zN b] (zN (a*b)):=by
 have h:=r2Mul_den a b ha hb
 rw [resZ_ok hF] at h
 generalize a*b=c at *
 refine den_intro (fn:=Tryz.f95) rfl rfl rfl rfl rfl ?_
 refine go ?_
 refine r_call h ?_
 refine go ?_
 refine fin ?_
 exact cv
theorem r15of_den (n:Nat) (x:Nat→Int) (hn:n≤10) (hx:∀ j, -9223372036854775808≤x j∧x j≤9223372036854775807):Den Tryz.prog 96 [.fz true n 1 (iD x)] (zN (prZ x n)):=by
 have h1:=r2Of_den 1 (by omega) (by omega)
 refine den_intro (fn:=Tryz.f96) rfl rfl rfl rfl rfl ?_
 refine go ?_
 refine r_call h1 ?_
 refine go ?_
 refine c_up n (fun i=>[(4,.val (.int .i64 (i:Nat)))]) (fun i=>[(1003,some (.lit 42 (zL (prZ x i))))]) (fun i hi=>?_)
 refine go ?_
 refine c_if (fun h=>?_) (fun h=>?_)
 ·have hm:=r15times_den (prZ x i) (x i) (prZ_fz hx (by omega)) (Fz.i64 (hx i).1 (hx i).2) (prZ_fz (n:=i+1) hx (by omega))
  rw [show prZ x i*x i=prZ x (i+1) from rfl] at hm
  have ho:=r2Of_den (x i) (hx i).1 (hx i).2
  refine go ?_
  refine r_call ho ?_
  refine go ?_
  refine r_call hm ?_
  refine go ?_
  refine ⟨h,?_⟩
  exact sub
 ·obtain rfl:i=n:=by omega
  refine go ?_
  refine fin ?_
  exact cv
theorem r15of1_den (x:Int) (h1 : -9223372036854775808≤x) (h2:x≤9223372036854775807):Den Tryz.prog 96 [.fz true 1 1 (iD (fun _=>x))] (zN x):=by
 have:=r15of_den 1 (fun _=>x) (by omega) (fun _=>⟨h1,h2⟩)
 rw [show prZ (fun _=>x) 1=x from Int.one_mul x] at this
 exact this
theorem z1_ok (x : Int) : ∀ e, e < 1 → (iD (fun _ => x) e).length = 1 ∧ ∀ c, c < 1 → dl (iD (fun _ => x) e) c = dl [.val (.int .i64 x)] (e * 1 + c) := by
  intro e he
  obtain rfl : e = 0 := by omega
  exact ⟨rfl, fun c hc => by obtain rfl : c = 0 := by omega
                             rfl⟩
theorem r15Bound_den (b:Bool) (s:ByteArray):Den Tryz.prog 91 [wS b s] (.val (.bool (vldB b s && !b))):=by
 have hV:=r2Valid_den b s
 refine den_intro (fn:=Tryz.f91) rfl rfl rfl rfl rfl ?_
 refine go ?_
 refine r_call hV ?_
 refine go ?_
 refine fin ?_
 exact cv
theorem r15numbers_den (p:PD) (ex sm tm:Nat) (hp:PFit p) (hg:goodB p=true) (e2:(ex:Int)≤p.power) (hsm:p.prime ^ ex=sm) (htm:p.prime ^ p.power.toNat=tm):Den Tryz.prog 92 [.agg (parL true p),.val (.int .i64 (ex:Int))] (.tup [.val (.int .i64 (sm:Int)),.val (.int .i64 (tm:Int)),.val (.int .i64 p.weight),.val (.int .i64 (p.err:Int))]):=by
 obtain ⟨q1,q2,q3,q4,q5⟩:=good_plain hg
 have hM:=r13Plain_den p ex (fun i hi=>(q5 i (by omega)).2) (by omega)
 have hM2:=r13Plain_den p p.power.toNat (fun i hi=>(q5 i hi).2) (by omega)
 rw [show ((p.power.toNat:Nat):Int)=p.power by omega] at hM2
 rw [hsm] at hM
 rw [htm] at hM2
 have hpe:=hp.err
 clear hsm htm q5
 refine den_intro (fn:=Tryz.f92) rfl rfl rfl rfl rfl ?_
 refine go ?_
 refine r_call hM ?_
 refine go ?_
 refine r_call hM2 ?_
 refine go ?_
 refine fin ?_
 exact cv
theorem r15size_den (p:PD) (most:Int) (ex sm:Nat) (hg:goodB p=true) (e2:(ex:Int)≤p.power) (hsm:p.prime ^ ex=sm):Den Tryz.prog 101 [.agg (parL true p),.val (.int .i64 most),.val (.int .i64 (ex:Int))] (.val (.bool (decide (0≤most) && decide (most≤((sm - 1) / 2:Nat))))):=by
 obtain ⟨q1,q2,q3,q4,q5⟩:=good_plain hg
 have hM:=r13Plain_den p ex (fun i hi=>(q5 i (by omega)).2) (by omega)
 have q6:=q5 ex (by omega)
 rw [hsm] at hM q6
 clear hsm q5
 refine den_intro (fn:=Tryz.f101) rfl rfl rfl rfl rfl ?_
 refine go ?_
 refine g_callM (hl:=fun _=>r_call hM (run_fin rfl)) (h:=?_)
 refine go ?_
 refine fin ?_
 exact cv

instance fi94:FI Tryz.prog 94 Tryz.f94:=⟨Tryz.func94,Tryz.call94⟩
instance fi97:FI Tryz.prog 97 Tryz.f97:=⟨Tryz.func97,Tryz.call97⟩
instance fi93:FI Tryz.prog 93 Tryz.f93:=⟨Tryz.func93,Tryz.call93⟩
theorem r15quotient_den (b n a S:Int) (hb0:0<b) (hb:Fz b) (ha0:0≤a) (ha:Fz a) (hn0:0≤n) (hn:n≤9223372036854775807) (hS0:0≤S) (hr:Fz (S+(a % b)*n)):Den Tryz.prog 94 [.val (.int .i64 n),zN a,zN S,zN b] (resZ (qtV b n a S)):=by
 have hb1:b≠0:=by omega
 have hd1:=r2Div_den a b ha hb hb1
 have hon:=r15of1_den n (by omega) hn
 have hnz:Fz n:=Fz.i64 (by omega) hn
 have hr0:0≤a % b*n:=Int.mul_nonneg (Int.emod_nonneg a hb1) hn0
 have hm0:0≤a / b:=Int.ediv_nonneg ha0 (by omega)
 have hmn:0≤a / b*n:=Int.mul_nonneg hm0 hn0
 have hm1:=r15times_den n (a % b) hnz (hb.mod hb1) (by rw [Int.mul_comm];exact hr.le (by omega))
 have hp1:=r15plus_den (n*(a % b)) S (by rw [Int.mul_comm];exact hr.le (by omega)) (hr.le (by omega)) (by rw [Int.mul_comm,Int.add_comm];exact hr)
 have hm2:=r2Mul_den n (a / b) hnz (ha.div hb1)
 have hq0:0≤(S+a % b*n) / b:=Int.ediv_nonneg (by omega) (by omega)
 have hd2:=r2Div_den (S+a % b*n) b hr hb hb1
 have hqf:Fz ((S+a % b*n) / b):=hr.div hb1
 have ha2:=fun h=>r2Add_den (a / b*n) ((S+a % b*n) / b) h hqf
 rw [show n*(a % b)+S=S+a % b*n by rw [Int.mul_comm,Int.add_comm]] at hp1
 rw [Int.mul_comm n (a % b)] at hm1 hp1
 rw [Int.mul_comm n (a / b)] at hm2
 unfold qtV
 generalize a % b*n=y at *
 generalize (S+y) / b=u at *
 generalize (S+y) % b=u2 at *
 generalize a / b*n=z at *
 generalize a / b=x at *
 generalize a % b=r at *
 by_cases hzf:Fz z
 ·rw [resZ_ok hzf] at hm2
  replace ha2:=ha2 hzf
  obtain ⟨rb,rs,re,hre⟩:=resZ_form (z+u)
  rw [hre] at ha2 ⊢
  refine den_intro (fn:=Tryz.f94) rfl rfl rfl rfl rfl ?_
  refine go ?_
  refine r_call hd1 ?_
  refine gor ?_
  refine goc ?_
  refine c_reg ?_
  refine gor ?_
  refine goc ?_
  refine c_no ?_
  refine goc ?_
  refine c_reg ?_
  refine go1 ?_
  refine r_bslF (iD (fun _=>n)) ?_ (hf:=z1_ok _)
  refine r_eqH (.fz false 1 1 (iD (fun _=>n))) rfl ?_
  refine r_call hon ?_
  refine go ?_
  refine r_call hm1 ?_
  refine go ?_
  refine r_call hp1 ?_
  refine go ?_
  refine r_call hd2 ?_
  refine gor ?_
  refine goc ?_
  refine c_reg ?_
  refine gor ?_
  refine goc ?_
  refine c_no ?_
  refine goc ?_
  refine c_reg ?_
  refine go1 ?_
  refine r_bslF (iD (fun _=>n)) ?_ (hf:=z1_ok _)
  refine r_eqH (.fz false 1 1 (iD (fun _=>n))) rfl ?_
  refine r_call hon ?_
  refine go ?_
  refine r_call hm2 ?_
  refine go ?_
  refine r_call ha2 ?_
  refine go ?_
  refine fin ?_
  exact cv
 ·rw [resZ_no hzf] at hm2
  rw [resZ_no (fun h=>hzf (h.le (by omega)))]
  refine den_intro (fn:=Tryz.f94) rfl rfl rfl rfl rfl ?_
  refine go ?_
  refine r_call hd1 ?_
  refine gor ?_
  refine goc ?_
  refine c_reg ?_
  refine gor ?_
  refine goc ?_
  refine c_no ?_
  refine goc ?_
  refine c_reg ?_
  refine go1 ?_
  refine r_bslF (iD (fun _=>n)) ?_ (hf:=z1_ok _)
  refine r_eqH (.fz false 1 1 (iD (fun _=>n))) rfl ?_
  refine r_call hon ?_
  refine go ?_
  refine r_call hm1 ?_
  refine go ?_
  refine r_call hp1 ?_
  refine go ?_
  refine r_call hd2 ?_
  refine gor ?_
  refine goc ?_
  refine c_reg ?_
  refine gor ?_
  refine goc ?_
  refine c_no ?_
  refine goc ?_
  refine c_reg ?_
  refine go1 ?_
  refine r_bslF (iD (fun _=>n)) ?_ (hf:=z1_ok _)
  refine r_eqH (.fz false 1 1 (iD (fun _=>n))) rfl ?_
  refine r_call hon ?_
  refine go ?_
  refine r_call hm2 ?_
  refine go ?_
  refine fin ?_
  exact cv
theorem r15half_den (a:Int) (ha:Fz a):Den Tryz.prog 97 [zN a] (zN (a / 2)):=by
 have hd:=r2Div_den a 2 ha (by decide) (by omega)
 have ho:=r15of1_den 2 (by omega) (by omega)
 generalize a / 2=q at *
 generalize a % 2=r at *
 refine den_intro (fn:=Tryz.f97) rfl rfl rfl rfl rfl ?_
 refine goc ?_
 refine c_reg ?_
 refine gor ?_
 refine goc ?_
 refine c_reg ?_
 refine go1 ?_
 refine r_bslF (iD (fun _=>2)) ?_ (hf:=z1_ok _)
 refine r_eqH (.fz false 1 1 (iD (fun _=>2))) rfl ?_
 refine r_call ho ?_
 refine go ?_
 refine r_call hd ?_
 refine go ?_
 refine fin ?_
 exact cv
theorem r15Product_den (p:PD) (lv:Nat) (hp:PFit p) (hgn:Gn p) (h2:lv≤p.chain.length):Den Tryz.prog 93 [.agg (parL true p),.val (.int .i64 (lv:Int))] (zN (prZ (chZ p) lv)):=by
 have hl:=hgn.len2
 have ho:=r15of1_den 1 (by omega) (by omega)
 refine den_intro (fn:=Tryz.f93) rfl rfl rfl rfl rfl ?_
 refine goc ?_
 refine c_reg ?_
 refine gor ?_
 refine goc ?_
 refine c_reg ?_
 refine r_bslF (iD (fun _=>1)) ?_ (hf:=z1_ok _)
 refine r_eqH (.fz false 1 1 (iD (fun _=>1))) rfl ?_
 refine r_call ho ?_
 refine go ?_
 refine c_up lv (fun i=>[(6,.val (.int .i64 (i:Nat)))]) (fun i=>[(1005,some (.lit 42 (zL (prZ (chZ p) i))))]) (fun i hi=>?_)
 refine go ?_
 refine c_if (fun h=>?_) (fun h=>?_)
 ·have hq:=pq_in hgn (lv:=i) (by omega)
  have hq2:=pq_in hgn (lv:=i+1) (by omega)
  have hci:=chZ_in hgn (i:=i) (by omega)
  have hm:=r15times_den (prZ (chZ p) i) (chZ p i) (hq.2.fz (by omega)) (Fz.i64 (by omega) (by omega)) (hq2.2.fz (by omega))
  rw [show prZ (chZ p) i*chZ p i=prZ (chZ p) (i+1) from rfl] at hm
  have ho:=r15of1_den (chZ p i) (by omega) (by omega)
  have hpc:=hp.chain i (by omega)
  refine goc ?_
  refine c_reg ?_
  refine go1 ?_
  refine go1 ?_
  refine go1 ?_
  refine go1 ?_
  refine go1 ?_
  refine go1 ?_
  refine go1 ?_
  refine r_bslF (iD (fun _=>(chZ p i))) ?_ (hf:=z1_ok _)
  refine r_eqH (.fz false 1 1 (iD (fun _=>(chZ p i)))) rfl ?_
  refine r_call ho ?_
  refine go ?_
  refine r_call hm ?_
  refine go ?_
  refine ⟨h,?_⟩
  exact sub
 ·obtain rfl:i=lv:=by omega
  refine go ?_
  refine fin ?_
  exact cv

section
variable {p:PD} {n lv:Nat}
def constX (c:Int) (j:Nat):Int:=if j=0 then c else 0
end
end Go.Proofs.YtdcenblblimkfaaGreat
