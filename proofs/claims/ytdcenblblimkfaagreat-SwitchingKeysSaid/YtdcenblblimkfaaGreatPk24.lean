/- Calls whose result is a row of its own; slices that are made and never turned. No walk.
The reference's product of two rows, by data.
Arguments as the rows lay them: parameters, lists of numbers. -/
import Derived.Test.YtdcenblblimkfaaGreatPk22
import Derived.Test.YtdcenblblimkfaaGreatPk01
import Derived.Test.YtdcenblblimkfaaGreatPk10
import Derived.Test.YtdcenblblimkfaaGreatPk09
import Derived.ProofKit
import Derived.OpenShut
import Derived.ChangeOld
import Derived.Deep.Slices
import Derived.Deep.Fields
import Derived.ChangeSame
import Derived.ChangeSlices
import Derived.Lib.SmallJoins
set_option linter.unusedSimpArgs false
set_option linter.unusedVariables false
set_option linter.unnecessarySimpa false
set_option linter.unusedSectionVars false
namespace Go.Proofs.YtdcenblblimkfaaGreat
open Go.RowKit
section
variable {ro:Option Nat} {P:Program} {N:Nat} {Q:Post} {ops:Array Oper} {rest:List Oper} {env:List (Nat × D)} {box:List (Nat × Option Box)} {done:List Rec} {K:List Rec→List (Nat × D)→List (Nat × Option Box)→Prop} {d:Nat} {ty:TypeId} {pos:String} {aft:Array Edge}
theorem r_callA {x:Operand} {xs:List Operand} {ts:Array TypeId} {f:FuncId} {fn:Func} {ds ads caps:List D} {r r' d0:D} {k0:Nat} {t:TypeId} {n m:Nat} {g:Nat→List D} [hf:FI P f fn] [hod:OldDL ds] [hnew:NewD r] [hnb:AllNew [(k0,(.arr t n m g))]] (hden:DenH P f ds [] r [] [(k0,(.arr t n m g))]) (hr:r.ren (fun _=>1000+d)=r') (h:RunK P N ops rest ((d,r')::env) ((1000+d,some (.arr t n m g))::box) (done++[⟨nsOf box (ads++caps),some d,r',[(1000+d,some (.arr t n m g))],[1000+d]⟩]) K) (hx:autoParam (Op1 env x d0) aq1._auto_1) (hcl:autoParam ((d0 = .val (.func (.func f) #[] #[])∧caps=[])∨d0 = .clo f caps) aq12._auto_1) (ha:autoParam (Op1L env xs ads) aq3._auto_1) (hv:autoParam (ArgVL true [] (nsOf box (ads++caps)) [] (fun _=>1000+d) (hk box) (ads++caps) ds) aq0._auto_1) (hd:Nat.blt d (fsz N)=true:=by rfl):RunK P N ops (⟨some d,.call { callee:=.value x,args:=xs.toArray,argTypes:=ts },ty,pos,aft,none⟩::rest) env box done K:=
 run_put (ws:=[(1000+d,some (.arr t n m g))]) (fresh:=[1000+d]) (by have:=loc_call (lend:=true) (ρ:=fun _=>1000+d) (P:=P) (N:=N) (o:=⟨some d,.call { callee:=.value x,args:=xs.toArray,argTypes:=ts },ty,pos,aft,none⟩) rfl hd hx.opd hcl ha.opd hden hv (fun k B hm=>by cases hm) (fun k hk=>by cases hk) rfl rfl (fun h=>⟨hnew,hnb⟩);rw [hr] at this;exact this) rfl h
end
section
variable {P:Program} {N:Nat} {o:Oper} {E:Nat→D} {H:Nat→Option Box}
theorem loc_makeFz {t el:TypeId} {x y:Operand} {n:Nat} {kl kc:IntKind} {z1 z2:Int} {info info':TypeInfo} {d':TypeDesc} {z:Value} (ho:o.op = .makeSlice t x y) (hd:dstLt o N=true) [hT:TI P t info (.slice el)] [hT':TI P el info' d'] (hz:info'.zero=some z) (hm:z.cells.size=info'.size) (h1:(z.cells.toList.all fun z=>z.oneCell')=true) (hms:Nat.blt 0 info'.size=true) (hx:Opd E x (.val (.int kl z1))) (hy:Opd E y (.val (.int kc z2))) (e1:z1=(n:Int)) (e2:z2=(n:Int)) (hb:n*info'.bytes≤140737488355328) (h63:n≤9223372036854775807) :
  Loc P N o E H ⟨[],o.dst,.fz false n info'.size (fun _=>valL z.cells.toList),[],[]⟩:=by
 refine ⟨rfl,by simp [ho],fun E1 H1 ha hk _ S a w hN hR K Q _ hK=>?_⟩
 obtain ⟨Z,i,hF⟩:=hR
 have a1:=(hF.opd (Opd.agree (x:=x) (by simp [ho,Op.operands]) ha hx)).valEq
 have a2:=(hF.opd (Opd.agree (x:=y) (by simp [ho,Op.operands]) ha hy)).valEq
 subst e1 e2
 replace hms:0<info'.size:=by simpa using hms
 have hb':(info'.bytes:Int)*(n:Int)≤281474976710656:=by
  have h:((n*info'.bytes:Nat):Int)≤281474976710656:=by omega
  rwa [Int.natCast_mul,Int.mul_comm] at h
 have hr:=run_make (P:=P) w t el info' z hT.under hT'.info hz kl kc (n:Int) (n:Int) (by omega) (Int.le_refl _) hb' (by omega)
 simp only [Int.toNat_natCast] at hr
 unfold Oper.wp
 rw [show (execOp a.eval o).run P w = .ok (.value (.slice (some ⟨w.heap.size,0,none⟩) n n)) (w.alloc (.cells (madeCells z.cells (n*info'.size)) el (0,0))) by
  simp only [execOp,ho,a1,a2]
  rw [Sem.run_bind,hr];rfl]
 have hnew:(w.alloc (.cells (madeCells z.cells (n*info'.size)) el (0,0))).heap[w.heap.size]? = some (.cells (madeCells z.cells (n*info'.size)) el (0,0)):=by show (w.heap.push _)[w.heap.size]? = some _;exact Array.getElem?_push_size
 have hsz:(w.alloc (.cells (madeCells z.cells (n*info'.size)) el (0,0))).heap.size=w.heap.size+1:=by show (w.heap.push _).size=_;exact Array.size_push _
 have hF2:Fits S E1 H1 (fun o b=>Z o b∨b=w.heap.size) i a (w.alloc (.cells (madeCells z.cells (n*info'.size)) el (0,0))):=
  hF.grown ⟨rfl,rfl,rfl,by omega⟩ (fun b hb=>Below.heap_alloc w _ b hb) (fun o b h=>.inl h) (fun b h=>h.imp id (fun q=>⟨by omega,by omega⟩)) (fun b h=>by
   rcases h with h | rfl
   ·exact ⟨.inl (hF.zsub b h),hF.zNew b h⟩
   ·exact ⟨.inr rfl,hF.kept.size⟩)
 refine hK _ _ ⟨_,i,hF2.put (by rw [hN];exact dstLt_spec hd) ?_⟩
 refine .fz _ _ _ n n info'.size _ (fun _ c=>z.cells.getD c undef) (Nat.le_refl _) h63 (fun e he=>by rw [valL_len,← hm];simp) (fun e c he hc=>⟨w.heap.size,0,rfl,.inr rfl,?_,?_⟩) (fun e c he hc=>?_)
 ·have hlt2:e*info'.size+c<n*info'.size:=by
   have:(e+1)*info'.size≤n*info'.size:=Nat.mul_le_mul_right _ (by omega)
   rw [Nat.add_mul] at this
   omega
  have e1:(madeCells z.cells (n*info'.size)).getD (e*info'.size+c) undef=z.cells.getD c undef:=by
   have:(e*info'.size+c) % z.cells.size=c:=by rw [hm,Nat.mul_comm,Nat.mul_add_mod,Nat.mod_eq_of_lt hc]
   simp [madeCells,Array.getD_eq_getD_getElem?,hlt2,this,Array.getElem!_eq_getD,Array.getElem?_eq_getElem (show c<z.cells.size by omega)]
  have:=(show Bk (w.alloc (.cells (madeCells z.cells (n*info'.size)) el (0,0))) w.heap.size el _ from hnew).cell (e*info'.size+c) (by simp [size_madeCells];exact hlt2)
  rw [e1] at this
  rw [Nat.zero_add]
  exact this
 ·have hc2:c<z.cells.toList.length:=by simp;omega
  have:=List.all_eq_true.1 h1 (z.cells.toList.getD c undef) (getD_mem _ hc2)
  rw [← toArray_getD] at this
  simpa using this
 ·have hc2:c<z.cells.toList.length:=by simp;omega
  rw [valL_at hc2,← toArray_getD]
  simp only [Array.toArray_toList]
  exact .val _ _
end
section
variable {P:Program} {N:Nat} {ops:Array Oper} {rest:List Oper} {env:List (Nat × D)} {box:List (Nat × Option Box)} {done:List Rec} {K:List Rec→List (Nat × D)→List (Nat × Option Box)→Prop} {d:Nat} {ty:TypeId} {pos:String} {aft:Array Edge}
theorem r_mkf {x y:Operand} {t el:TypeId} (n:Nat) {kl kc:IntKind} {z1 z2:Int} {info info':TypeInfo} {d':TypeDesc} {zv:Value} {zs:List D} [hT:TI P t info (.slice el)] [hT':TI P el info' d'] (hn1:NatIs z1 n) (hn2:NatIs z2 n) (hb:n≤549755813888) (h:RunK P N ops rest ((d,.fz false n info'.size (fun _=>zs))::env) box (done++[⟨[],some d,.fz false n info'.size (fun _=>zs),[],[]⟩]) K) (hx:autoParam (Op1 env x (.val (.int kl z1))) aq1._auto_1) (hy:autoParam (Op1 env y (.val (.int kc z2))) aq1._auto_1) (hz:info'.zero=some zv:=by rfl) (hm:zv.cells.size=info'.size:=by rfl) (h1:(zv.cells.toList.all fun z=>z.oneCell')=true:=by rfl) (hms:Nat.blt 0 info'.size=true:=by rfl) (hby:Nat.ble info'.bytes 256=true:=by rfl) (hzs:valL zv.cells.toList=zs:=by rfl) (hd:Nat.blt d (fsz N)=true:=by rfl):RunK P N ops (⟨some d,.makeSlice t x y,ty,pos,aft,none⟩::rest) env box done K:=
 run_put (ws:=[]) (fresh:=[]) (hzs▸loc_makeFz rfl hd hz hm h1 hms hx.opd hy.opd hn1 hn2 (Nat.le_trans (bytes_le hby hb) (by decide)) (by omega)) rfl h
end

instance fi277:FI Tryz.prog 277 Tryz.f277:=⟨Tryz.func277,Tryz.call277⟩
instance fi226:FI Tryz.prog 226 Tryz.f226:=⟨Tryz.func226,Tryz.call226⟩
instance fi149:FI Tryz.prog 149 Tryz.f149:=⟨Tryz.func149,Tryz.call149⟩
set_option maxRecDepth 20000
set_option maxHeartbeats 4000000
theorem mulA_mpl (a b:Nat→Nat) (q k j:Nat):mulA a b q k j=mpl a b q k j:=by
 induction j with
 | zero=>rfl
 | succ j ih=>unfold mulA mpl;rw [ih]
theorem mulS_mmi (a b:Nat→Nat) (q n k j:Nat):mulS a b q n k j=mmi a b q n k j:=by
 induction j with
 | zero=>rfl
 | succ j ih=>unfold mulS mmi;rw [ih]
theorem mulR_nc (a b:Nat→Nat) {q n k:Nat} (hq:0<q):mulR a b q n k=nc a b q n k:=by
 unfold mulR
 rw [mulA_mpl,mulS_mmi,prog_nc hq]
theorem setE_put {h h':Nat→Nat} {j v n:Nat} (hv:v=h' j) (ho:∀ e,e<n→e≠j→h' e=h e) (e:Nat) (he:e<n):setE (fun e=>[.val (.int .u32 ((h e:Nat):Int))]) j 0 [.val (.int .u32 ((v:Nat):Int))] e=[.val (.int .u32 ((h' e:Nat):Int))]:=by
 subst hv
 unfold setE
 by_cases q:e=j
 ·subst q;simp [setL,takeL,dropL]
 ·simp [q,ho e he q]
section
variable {E2:Nat→D} {H2:Nat→Option Box} {env:List (Nat × D)} {box:List (Nat × Option Box)}
theorem row_put (k:Nat) {n j v:Nat} {h:Nat→Nat} (h':Nat→Nat) (hv:v=h' j) (ho:∀ e,e<n→e≠j→h' e=h e) (g:Sub (lk env) (hk ((k,some (rowB n h'))::box)) E2 H2) (hb:autoParam (Bl box k (.arr 22 n 1 (setE (fun e=>[.val (.int .u32 ((h e:Nat):Int))]) j 0 [.val (.int .u32 ((v:Nat):Int))]))) aq6._auto_1):Sub (lk env) (hk box) E2 H2:=sub_arr k _ (fun e he=>setE_put hv ho e he) (fun _=>rfl) g hb
end
theorem r06Product_den (q n:Nat) (a b:Nat→Nat) (hn0:0<n) (hn:n≤32) (hq0:0<q) (hq:q<2147483648) (ha:∀ j,a j<2147483648) (hb:∀ j,b j<2147483648) :
  Den Tryz.prog 277 [.val (.int .u32 (q:Int)),.fz true n 1 (fun j=>[.val (.int .u32 ((a j:Nat):Int))]),.fz true n 1 (fun j=>[.val (.int .u32 ((b j:Nat):Int))])] (.fz false n 1 (fun j=>[.val (.int .u32 ((mulR a b q n j:Nat):Int))])):=by
 refine den_intro (fn:=Tryz.f277) rfl rfl rfl rfl rfl ?_
 refine go ?_
 refine c_arr (1000+14) (fun e=>[.val (.int .u32 ((rfRow a b q n 0 0 e:Nat):Int))]) (fun e he=>by rw [rfRow_zero]) (fun _=>rfl) ?_
 refine c_up n (fun i=>[(8,.val (.int .i64 (i:Nat)))]) (fun i=>[(1014,some (rowB n (rfRow a b q n i 0)))]) (fun i hi=>?_)
 refine go ?_
 refine c_if (fun h3=>?_) (fun h3=>?_)
 ·refine go ?_
  refine c_up n (fun k=>[(9,.val (.int .i64 (k:Nat)))]) (fun k=>[(1014,some (rowB n (rfRow a b q n i k)))]) (fun k hk=>?_)
  refine go ?_
  have ha':=ha i
  have hb':=hb k
  have hp:a i*b k<2147483648*2147483648:=Nat.mul_lt_mul'' ha' hb'
  have hm:a i*b k % q<q:=Nat.mod_lt _ hq0
  refine c_if (fun h4=>?_) (fun h4=>?_)
  ·refine go ?_
   refine c_if (fun h5=>?_) (fun h5=>?_)
   ·have hr:=rfRow_lt (x:=a) (y:=b) (n:=n) (i:=i) (k:=k) (t:=i+k - n) hq0
    have hm2:(q - a i*b k % q) % q<q:=Nat.mod_lt _ hq0
    have hm3:(rfRow a b q n i k (i+k - n)+(q - a i*b k % q) % q) % q<q:=Nat.mod_lt _ hq0
    refine go ?_
    refine ⟨h4,?_⟩
    refine row_put 1014 (rfRow a b q n i (k+1)) (rfRow_high hq0 h3 h4 h5) (fun e he hne=>rfRow_other h3 h4 he (by rw [if_neg (by omega)];exact hne)) ?_
    exact sub
   ·have hr:=rfRow_lt (x:=a) (y:=b) (n:=n) (i:=i) (k:=k) (t:=i+k) hq0
    have hm3:(rfRow a b q n i k (i+k)+a i*b k % q) % q<q:=Nat.mod_lt _ hq0
    refine go ?_
    refine ⟨h4,?_⟩
    refine row_put 1014 (rfRow a b q n i (k+1)) (rfRow_low hq0 h3 (by omega)) (fun e he hne=>rfRow_other h3 h4 he (by rw [if_pos (by omega)];exact hne)) ?_
    exact sub
  ·obtain rfl:k=n:=by omega
   have en:∀ e,e<k→([.val (.int .u32 ((rfRow a b q k i k e:Nat):Int))]:List D)=[.val (.int .u32 ((rfRow a b q k (i+1) 0 e:Nat):Int))]:=fun e he=>by rw [rfRow_next h3 he]
   refine go ?_
   refine ⟨h3,?_⟩
   refine sub_arr 1014 _ en (fun _=>rfl) ?_
   exact sub
 ·refine go ?_
  obtain rfl:i=n:=by omega
  have en:∀ e,e<i→([.val (.int .u32 ((rfRow a b q i i 0 e:Nat):Int))]:List D)=[.val (.int .u32 ((mulR a b q i e:Nat):Int))]:=fun e he=>by rw [mulR_nc a b hq0,rfRow_end]
  refine fin_arr 1014 _ en (fun _=>rfl) ?_
  refine fin_freeze 1014 ?_
  refine fin ?_
  exact cv

open Go.ChangeShapes Go.WideShapes Go.ChangeAt Go.RowKit Go.Deep Go.Joins

section
variable {H:Type} {enc:TypeId × Value→H} {P:Program} {w:World} {base:Nat} {spare:Nat→Bool} {held:Bool}
end
theorem addr_of_cell {w:World} {a:Addr} {v:Value} (h:w.cell? a=some v):a=⟨a.block,a.off,none⟩:=by
 unfold World.cell? at h
 split at h
 ·by_cases hs:a.spot.isSome=true
  ·rw [if_pos hs] at h;cases h
  ·obtain ⟨b,o,s⟩:=a
   cases s with
   | none=>rfl
   | some x=>exact absurd rfl hs
 ·cases h
section
variable {H:Type} {enc:TypeId × Value→H} {w:World} {base:Nat} {spare:Nat→Bool} {held:Bool} {fuel:Nat} {x:DataW H × List MemPlace} {v:Value}
theorem words_in (h:DataW.trod enc Tryz.prog w base spare held fuel 23 [v]=some x) :
  ∃ (ao:Option Addr) (c:Nat) (l:List Nat),v = .slice ao l.length c∧(ao=none→l=[]∧c=0)∧l.length≤c∧c≤maxLen∧Rd w ao l∧∀ i,i<l.length→l.getD i 0≤4294967295:=by
 rcases open_ints Tryz.underlying23 Tryz.underlying22 (by kernel_rfl) h with ⟨hcs,_⟩ | ⟨a,len,cap,zs,hcs,_,hl,hm,hzl,_,hc,hwf⟩
 ·simp at hcs
  exact ⟨none,0,[],hcs,fun _=>⟨rfl,rfl⟩,by simp,by simp,Rd.nil _ _,fun i hi=>by simp at hi⟩
 ·simp at hcs
  have hzz:len≤zs.length:=by rw [hzl];split<;>omega
  have ht:((zs.take len).map Int.toNat).length=len:=by rw [List.length_map,List.length_take];omega
  have hb:∀ i,i<zs.length→0≤zs.getD i 0∧zs.getD i 0≤4294967295:=fun i hi=>by
   have:=hwf zs[i] (List.getElem_mem hi)
   have e:zs.getD i 0=zs[i]:=by simp [List.getD_eq_getElem?_getD,hi]
   rw [e]
   simp [Lit.wf,IntKind.min,IntKind.max,IntKind.signed,IntKind.bits] at this
   omega
  have hg:∀ j,j<len→(((zs.take len).map Int.toNat).getD j 0:Nat)=(zs.getD j 0).toNat:=fun j hj=>by
   simp [List.getD_eq_getElem?_getD,hj]
   cases hz:zs[j]?<;>simp
  refine ⟨some a,cap,(zs.take len).map Int.toNat,by rw [ht];exact hcs,(fun h=>by cases h),by omega,hm,fun k hk=>?_,fun i hi=>?_⟩
  ·rw [ht] at hk
   have h0:=hc 0 (by omega)
   rw [show a.add 0=a from rfl] at h0
   have ha:=addr_of_cell h0
   refine ⟨a.block,a.off,by rw [← ha],fun j hj=>?_⟩
   rw [ht] at hj
   have hj':=hc j (by omega)
   rw [ha,add_zero_addr] at hj'
   rw [hj',hg j hj,Int.toNat_of_nonneg (hb j (by omega)).1]
  ·rw [ht] at hi
   rw [hg i hi]
   have:=hb i (by omega)
   omega
end
theorem bounds_int {z:Int} (h:(Lit.int .i64 z).wf=true) : -9223372036854775808≤z∧z≤9223372036854775807:=by
 simp [Lit.wf,IntKind.min,IntKind.max,IntKind.signed,IntKind.bits] at h
 omega
theorem bounds_w32 {z:Int} (h:(Lit.int .u32 z).wf=true):0≤z∧z≤4294967295:=by
 simp [Lit.wf,IntKind.min,IntKind.max,IntKind.signed,IntKind.bits] at h
 omega
end Go.Proofs.YtdcenblblimkfaaGreat
