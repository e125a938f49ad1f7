/- Arguments as the rows lay them: parameters, lists of numbers. -/
import Derived.Test.YtdcenblblimkfaaGreatPn06
import Derived.Test.YtdcenblblimkfaaGreatPn05
import Derived.ProofKit
import Derived.OpenShut
import Derived.ChangeOld
import Derived.Deep.Slices
import Derived.Deep.Fields
import Derived.ChangeSame
import Derived.ChangeSlices
import Derived.Lib.SmallJoins
set_option linter.unusedSimpArgs false
set_option linter.unusedVariables false
set_option linter.unnecessarySimpa false
set_option linter.unusedSectionVars false
namespace Go.Proofs.YtdcenblblimkfaaGreat
open Go.ChangeShapes Go.WideShapes Go.ChangeAt Go.RowKit Go.Deep Go.Joins

section
variable {H:Type} {enc:TypeId × Value→H} {P:Program} {w:World} {base:Nat} {spare:Nat→Bool} {held:Bool}
theorem open_agg7 {r:Reach} {b0:Nat} {t:TypeId} {f0 f1 f2 f3 f4 f5 f6:Field} {v:Value} {d:DataW H} {p:List MemPlace} (hs:P.underlying t=some (.struct #[f0,f1,f2,f3,f4,f5,f6])) (hone:oneCellFields P #[f0,f1,f2,f3,f4,f5,f6]=true) (hC:P.cellsOf t=7)
  (hv:Value.okWide P w r b0 t v) (h:DataW.Trod enc P w base spare held t v d p) :
  ∃ (v0 v1 v2 v3 v4 v5 v6:Value) (y0 y1 y2 y3 y4 y5 y6:DataW H × List MemPlace) (n:Nat),v = .agg #[v0,v1,v2,v3,v4,v5,v6] ∧
   DataW.trod enc P w base spare held n f0.type [v0]=some y0∧DataW.trod enc P w base spare held n f1.type [v1]=some y1∧DataW.trod enc P w base spare held n f2.type [v2]=some y2∧DataW.trod enc P w base spare held n f3.type [v3]=some y3∧DataW.trod enc P w base spare held n f4.type [v4]=some y4∧DataW.trod enc P w base spare held n f5.type [v5]=some y5∧DataW.trod enc P w base spare held n f6.type [v6]=some y6:=by
 obtain ⟨cs,rfl,hsz⟩:=okWide_struct hs hv
 obtain ⟨l⟩:=cs
 match l,hsz.trans hC with
 | [c0,c1,c2,c3,c4,c5,c6],_=>
  obtain ⟨fuel,hf⟩:=h
  obtain ⟨xs,n,_,hx,_,hlen,hg⟩:=DataW.trod_struct hs hf
  obtain ⟨o0,k0⟩:=hone_of hone 0 f0 rfl
  obtain ⟨o1,k1⟩:=hone_of hone 1 f1 rfl
  obtain ⟨o2,k2⟩:=hone_of hone 2 f2 rfl
  obtain ⟨o3,k3⟩:=hone_of hone 3 f3 rfl
  obtain ⟨o4,k4⟩:=hone_of hone 4 f4 rfl
  obtain ⟨o5,k5⟩:=hone_of hone 5 f5 rfl
  obtain ⟨o6,k6⟩:=hone_of hone 6 f6 rfl
  match xs,hlen with
  | [y0,y1,y2,y3,y4,y5,y6],_=>
   exact ⟨c0,c1,c2,c3,c4,c5,c6,y0,y1,y2,y3,y4,y5,y6,n,rfl,by simpa [Value.cells,o0,k0] using hg 0 f0 rfl,by simpa [Value.cells,o1,k1] using hg 1 f1 rfl,by simpa [Value.cells,o2,k2] using hg 2 f2 rfl,by simpa [Value.cells,o3,k3] using hg 3 f3 rfl,by simpa [Value.cells,o4,k4] using hg 4 f4 rfl,by simpa [Value.cells,o5,k5] using hg 5 f5 rfl,by simpa [Value.cells,o6,k6] using hg 6 f6 rfl⟩
end
theorem addr_of_cell {w:World} {a:Addr} {v:Value} (h:w.cell? a=some v):a=⟨a.block,a.off,none⟩:=by
 unfold World.cell? at h
 split at h
 ·by_cases hs:a.spot.isSome=true
  ·rw [if_pos hs] at h;cases h
  ·obtain ⟨b,o,s⟩:=a
   cases s with
   | none=>rfl
   | some x=>exact absurd rfl hs
 ·cases h
section
variable {H:Type} {enc:TypeId × Value→H} {w:World} {base:Nat} {spare:Nat→Bool} {held:Bool} {fuel:Nat} {x:DataW H × List MemPlace} {v:Value}
theorem words_in (h:DataW.trod enc Tryz.prog w base spare held fuel 23 [v]=some x) :
  ∃ (ao:Option Addr) (c:Nat) (l:List Nat),v = .slice ao l.length c∧(ao=none→l=[]∧c=0)∧l.length≤c∧c≤maxLen∧Rd w ao l∧∀ i,i<l.length→l.getD i 0≤4294967295:=by
 rcases open_ints Tryz.underlying23 Tryz.underlying22 (by kernel_rfl) h with ⟨hcs,_⟩ | ⟨a,len,cap,zs,hcs,_,hl,hm,hzl,_,hc,hwf⟩
 ·simp at hcs
  exact ⟨none,0,[],hcs,fun _=>⟨rfl,rfl⟩,by simp,by simp,Rd.nil _ _,fun i hi=>by simp at hi⟩
 ·simp at hcs
  have hzz:len≤zs.length:=by rw [hzl];split<;>omega
  have ht:((zs.take len).map Int.toNat).length=len:=by rw [List.length_map,List.length_take];omega
  have hb:∀ i,i<zs.length→0≤zs.getD i 0∧zs.getD i 0≤4294967295:=fun i hi=>by
   have:=hwf zs[i] (List.getElem_mem hi)
   have e:zs.getD i 0=zs[i]:=by simp [List.getD_eq_getElem?_getD,hi]
   rw [e]
   simp [Lit.wf,IntKind.min,IntKind.max,IntKind.signed,IntKind.bits] at this
   omega
  have hg:∀ j,j<len→(((zs.take len).map Int.toNat).getD j 0:Nat)=(zs.getD j 0).toNat:=fun j hj=>by
   simp [List.getD_eq_getElem?_getD,hj]
   cases hz:zs[j]?<;>simp
  refine ⟨some a,cap,(zs.take len).map Int.toNat,by rw [ht];exact hcs,(fun h=>by cases h),by omega,hm,fun k hk=>?_,fun i hi=>?_⟩
  ·rw [ht] at hk
   have h0:=hc 0 (by omega)
   rw [show a.add 0=a from rfl] at h0
   have ha:=addr_of_cell h0
   refine ⟨a.block,a.off,by rw [← ha],fun j hj=>?_⟩
   rw [ht] at hj
   have hj':=hc j (by omega)
   rw [ha,add_zero_addr] at hj'
   rw [hj',hg j hj,Int.toNat_of_nonneg (hb j (by omega)).1]
  ·rw [ht] at hi
   rw [hg i hi]
   have:=hb i (by omega)
   omega
end
theorem bounds_int {z:Int} (h:(Lit.int .i64 z).wf=true) : -9223372036854775808≤z∧z≤9223372036854775807:=by
 simp [Lit.wf,IntKind.min,IntKind.max,IntKind.signed,IntKind.bits] at h
 omega
theorem bounds_w32 {z:Int} (h:(Lit.int .u32 z).wf=true):0≤z∧z≤4294967295:=by
 simp [Lit.wf,IntKind.min,IntKind.max,IntKind.signed,IntKind.bits] at h
 omega
set_option maxRecDepth 100000 in
theorem params_in {H:Type} {enc:TypeId × Value→H} {w:World} {base b0:Nat} {spare:Nat→Bool} {held:Bool} {r:Reach} {v:Value} {d:DataW H} {p:List MemPlace} (hv:Value.okWide Tryz.prog w r b0 25 v) (h:DataW.Trod enc Tryz.prog w base spare held 25 v d p) :
  ∃ (q:Par) (ca:Option Addr) (cc:Nat),v = .agg (q.cells ca cc)∧ParIn w q ca cc:=by
 obtain ⟨v0,v1,v2,v3,v4,v5,v6,y0,y1,y2,y3,y4,y5,y6,n,rfl,t0,t1,t2,t3,t4,t5,t6⟩:=open_agg7 Tryz.underlying25 (by kernel_rfl) (by kernel_rfl) hv h
 obtain ⟨z0,e0,_,w0⟩:=DataW.trod_int Tryz.underlying3 t0
 obtain ⟨z1,e1,_,w1⟩:=DataW.trod_int Tryz.underlying22 t1
 obtain ⟨z2,e2,_,w2⟩:=DataW.trod_int Tryz.underlying3 t2
 obtain ⟨ca,cc,l,rfl,hn,hlc,hcm,hrd,hb⟩:=words_in t3
 obtain ⟨z4,e4,_,w4⟩:=DataW.trod_int Tryz.underlying22 t4
 obtain ⟨z5,e5,_,w5⟩:=DataW.trod_int Tryz.underlying3 t5
 obtain ⟨z6,e6,_,w6⟩:=DataW.trod_int Tryz.underlying22 t6
 simp at e0 e1 e2 e4 e5 e6
 subst e0 e1 e2 e4 e5 e6
 obtain ⟨a0,b0⟩:=bounds_int w0
 obtain ⟨a1,b1⟩:=bounds_w32 w1
 obtain ⟨a2,b2⟩:=bounds_int w2
 obtain ⟨a4,b4⟩:=bounds_w32 w4
 obtain ⟨a5,b5⟩:=bounds_int w5
 obtain ⟨a6,b6⟩:=bounds_w32 w6
 obtain ⟨x1,rfl⟩:=Int.eq_ofNat_of_zero_le a1
 obtain ⟨x4,rfl⟩:=Int.eq_ofNat_of_zero_le a4
 obtain ⟨x6,rfl⟩:=Int.eq_ofNat_of_zero_le a6
 refine ⟨⟨z0,x1,z2,l,x4,z5,x6⟩,ca,cc,rfl,{ rd:=hrd,n1:=a0,n2:=b0,prime:=by simp only;omega,power1:=a2,power2:=b2,len:=?_,room:=hlc,room2:=by unfold maxLen at hcm;omega,chain:=hb,special:=by simp only;omega,weight1:=a5,weight2:=b5,err:=by simp only;omega }⟩
 unfold maxLen at hcm
 simp only
 omega
end Go.Proofs.YtdcenblblimkfaaGreat
