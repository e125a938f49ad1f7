/- Switching's digits of an element, by data.
The reference's digits of an element; lists of elements that are equal, or large: by data.
Which switching keys are valid, by data.
Which switching keys are valid: both sides.
Which switching keys are valid: the reference.
Which switching keys are valid: the reference's check.
The law on switching's forms, by data: for any digits that are alike on both sides.
Arguments as the rows lay them, by data.
One ciphertext, as the rows lay it, by data.
Supplies of bits by data: what the elder walks of the reference say.
The reference's multiples, whose root is the call's own, by data.
The reference's products of elements, by data.
Sums of products of elements: what the program and its reference add is one and the same.
The program's division by the special prime, by data. A DRAFT: not built.
Automorphisms of rows, as the reference writes them; digits under them. Plain.
Supplies of bits by data: the reference's. -/
import Derived.Test.YtmjildbdkecolaaGreatPg38
import Derived.Test.YtmjildbdkecolaaGreatPg37
import Derived.Test.YtmjildbdkecolaaGreatPg36
import Derived.Test.YtmjildbdkecolaaGreatPg19
import Derived.Test.YtmjildbdkecolaaGreatPg21
import Derived.Test.YtmjildbdkecolaaGreatPg31
import Derived.Test.YtmjildbdkecolaaGreatPg20
set_option linter.unusedSimpArgs false
set_option linter.unusedVariables false
set_option linter.unnecessarySimpa false
set_option linter.unusedSectionVars false
namespace Go.Proofs.YtmjildbdkecolaaGreat
open Go.RowKit
set_option maxRecDepth 20000
set_option maxHeartbeats 4000000
theorem swdigits_den (p:PD) (n lv:Nat) (g:Nat→Nat→Nat):Den Tryz.prog 103 [.agg (parL true p),.agg (elL true lv false lv n g)] (.clo 173 [.fptr false (parL true p),.fptr false (elL true lv false lv n g)]):=by
 refine den_intro (fn:=Tryz.f103) rfl rfl rfl rfl rfl ?_
 refine go ?_
 refine fin_frz 1002 ?_
 refine fin_frz 1003 ?_
 refine fin ?_
 exact cv
abbrev dgV (p:PD) (lv:Nat) (g:Nat→Nat→Nat) (i k j:Nat):Nat:=resI (balR p lv g i j) (modQ p lv k)
theorem balR_in {p:PD} {n lv:Nat} (h:Lv p n lv) {g:Nat→Nat→Nat} (hv:Vg p lv g) (i j:Nat) : -9223372036854775808≤balR p lv g i j∧balR p lv g i j≤9223372036854775807:=by
 have:=hv i j
 have:=modQ_in h.vp h.sp h.l2 i
 unfold balR balI
 split<;>omega
theorem swDigits_ok (p:PD) (n lv:Nat) (hp:PFit p) (hg:Good p.par) (h:Lv p n lv) (g:Nat→Nat→Nat) (hv:Vg p lv g):Den Tryz.prog 42 [.agg (parL true p),.agg (elL true lv false lv n g)] (.tup [.fz false lv 3 (fun i=>elL false lv true (lv+1) n (dgV p lv g i)),.val (.int .i64 0)]):=by
 refine den_intro (fn:=Tryz.f42) rfl rfl rfl rfl rfl ?_
 have l1:=h.l1
 have l2:=h.l2
 have l24:=h.vp.len2
 have h32:=h.n32
 have hgd:=goodB_iff.2 hg
 have hpc:=pcheck_den p hp
 rw [hgd] at hpc
 refine go ?_
 refine r_call hpc ?_
 refine go ?_
 refine r_eqS 17 (.val (.bool false)) rfl ?_
 refine r_eqS 18 (.agg (parL true p)) rfl ?_
 refine r_eqS 19 (.agg (elL true lv false lv n g)) rfl ?_
 refine go ?_
 refine r_call (rgCheckV_den p n lv false h g hv) ?_
 refine go ?_
 refine c_no ?_
 refine go ?_
 refine r_callO (swdigits_den p n lv g) ?_
 refine go ?_
 refine c_nilcell 1006 0 1941 35 3 (fun i=>elL false lv true (lv+1) n (dgV p lv g i)) ?_
 refine c_range (α:=Empty) [1002,1003,1004,1005,1006] (swdigits1_itr p n lv hp hg h g hv) lv (by simp) (fun k=>[digR p n lv g k]) (fun k hk=>by simp [hk])
  (fun k=>[(106,some (.lit 26 [.sl 1941 3 k])),(1941,some (.arr 35 k 3 (fun i=>elL false lv true (lv+1) n (dgV p lv g i)))),(104,some (.lit 26 [.val (.slice none 0 0)])),(105,some (.lit 36 [.val (.int .i64 0)])),(102,some (.lit 25 (parL true p))),(103,some (.lit 35 (elL true lv false lv n g)))])
  (fun _=>[]) (fun _=>False) (fun _=>.ret) (fun _=>True) trivial (fun k l hk _=>?_) (fun _=>?_) (fun y=>y.elim)
 ·refine go ?_
  refine r_call (rgFromInts_den p n lv true h (fun j=>balR p lv g k j) (fun j=>balR_in h hv k j)) ?_
  refine go ?_
  refine ⟨trivial,?_⟩
  refine sub_arr (1000+41) (fun i=>elL false lv true (lv+1) n (dgV p lv g i)) (appF_snoc rfl) (fun _=>rfl) ?_
  refine sub_toE (1000+41) 1941 ?_
  exact sub
 ·refine go ?_
  refine fin_freeze 1941 ?_
  refine fin ?_
  exact cv

instance fi58:FI Tryz.prog 58 Tryz.f58:=⟨Tryz.func58,Tryz.call58⟩
instance fi35:FI Tryz.prog 35 Tryz.f35:=⟨Tryz.func35,Tryz.call35⟩
instance fi83:FI Tryz.prog 83 Tryz.f83:=⟨Tryz.func83,Tryz.call83⟩
instance fi96:FI Tryz.prog 96 Tryz.f96:=⟨Tryz.func96,Tryz.call96⟩
theorem r09CheckV_den (p:PD) (n lv:Nat) (sp:Bool) (h:Lv p n lv) (g:Nat→Nat→Nat) (hg:Vg p lv g):Den Tryz.prog 37 [.agg (parL true p),.agg (elL true lv sp (modN p lv sp) n g)] (.val (.int .i64 0)):=by
 have h32:=h.n32
 have l2:=h.l2
 have l24:=h.vp.len2
 have hM:modN p lv sp≤1000000:=by unfold modN;split<;>omega
 have:=r09Check_den0 p h.vp h.sp (lv:Int) sp (modN p lv sp) (fun _=>n) g (fun _=>by show n≤_;omega) hM
 rw [elOk_valid h hg] at this
 exact this
theorem guard_good1 {a:Bool} (h:(decide (errI a≠0) == false)=true):a=true:=by
 cases a
 ·simp at h
 ·rfl
theorem r18Digits_ok (p:PD) (n lv:Nat) (hp:PFit p) (hg:Good p.par) (h:Lv p n lv) (g:Nat→Nat→Nat) (hv:Vg p lv g):Den Tryz.prog 58 [.agg (parL true p),.agg (elL true lv false lv n g)] (.tup [.fz false lv 3 (fun i=>elL false lv true (lv+1) n (dgV p lv g i)),.val (.int .i64 0)]):=by
 refine den_intro (fn:=Tryz.f58) rfl rfl rfl rfl rfl ?_
 have l1:=h.l1
 have l2:=h.l2
 have l24:=h.vp.len2
 have h32:=h.n32
 have hpc:=r12check_den p hp
 rw [goodB_iff.2 hg] at hpc
 refine go ?_
 refine r_call hpc ?_
 refine go ?_
 refine r_eqS 11 (.val (.bool false)) rfl ?_
 refine r_eqS 12 (.agg (parL true p)) rfl ?_
 refine r_eqS 13 (.agg (elL true lv false lv n g)) rfl ?_
 refine go ?_
 refine r_call (r09CheckV_den p n lv false h g hv) ?_
 refine go ?_
 refine c_no ?_
 refine go ?_
 refine c_nil 6 1900 35 3 (fun i=>elL false lv true (lv+1) n (dgV p lv g i)) ?_
 refine c_up lv (fun j=>[(6,.sl 1900 3 j),(7,.val (.int .i64 (j:Nat)))]) (fun j=>[(1900,some (.arr 35 j 3 (fun i=>elL false lv true (lv+1) n (dgV p lv g i))))]) (fun j hj=>?_)
 refine go ?_
 refine c_if (fun h3=>?_) (fun h3=>?_)
 ·have hm:=modQ_in h.vp h.sp h.l2 j
  have hqe:modQ p lv j=p.chain.getD j 0:=if_pos h3
  have hb:=r18Balanced_den n (p.chain.getD j 0) (g j) (by omega) (by omega) (by omega) (fun i=>by rw [← hqe];exact hv j i)
  rw [← hqe] at hb
  have hx:∀ i, -9223372036854775808≤balI (g j i) (modQ p lv j)∧balI (g j i) (modQ p lv j)≤9223372036854775807:=fun i=>balR_in h hv j i
  refine go ?_
  refine r_eqS 41 (.val (.int .u32 ((modQ p lv j:Nat):Int))) (d:=.val (.int .u32 ((p.chain.getD j 0:Nat):Int))) (by rw [hqe]) ?_
  refine r_callO hb ?_
  refine go ?_
  refine r_call (r13Of_den p n lv true h (.val (.slice none 0 0)) rfl (fun i=>balI (g j i) (modQ p lv j)) hx) ?_
  refine go ?_
  refine ⟨h3,?_⟩
  refine sub_arr (1000+45) (fun i=>elL false lv true (lv+1) n (dgV p lv g i)) (appF_snoc rfl) (fun _=>rfl) ?_
  refine sub_toL [27] (1000+45) 1900 ?_
  exact sub
 ·obtain rfl:j=lv:=by omega
  refine go ?_
  refine fin_freeze 1900 ?_
  refine fin ?_
  exact cv
structure LG where
 m:Nat
 E:Nat→EG
abbrev lgD (o:Bool) (A:LG):D:=.fz o A.m 3 (fun i=>elD o (A.E i))

instance ti28:TI Tryz.prog 28 Tryz.t28 Tryz.t27.desc:=⟨by kernel_rfl,by kernel_rfl⟩
instance sz28:SZ Tryz.prog 28 3:=SZ.of ti28 rfl
instance zr28:ZR Tryz.prog 28 [.int .i64 0,.slice none 0 0,.slice none 0 0]:=ZR.of ti28 rfl rfl rfl
instance bt28:BT Tryz.prog 28 [(0,1),(1,1),(2,1)] [.int .i64 0,.slice none 0 0,.slice none 0 0]:=BT.of (ns:=[1,1,1]) ti28 rfl zr28.zr ⟨sz3.sz,⟨sz26.sz,⟨sz26.sz,trivial⟩⟩⟩ (by intro j;repeat (first | rfl | cases j with | zero=>rfl | succ j=>?_))
instance ft28_0:FT Tryz.prog 28 0 0:=FT.of ti28 rfl ti3 rfl rfl
instance ft28_1:FT Tryz.prog 28 1 1:=FT.of ti28 rfl ti26 rfl rfl
instance ft28_2:FT Tryz.prog 28 2 2:=FT.of ti28 rfl ti26 rfl rfl
def fromB (p:PD) (f:Int):Bool:=decide (f=2) || (decide (f ≤ -3) && decide (-2*p.n<f) && decide (f % 2=1))
theorem and1_neg (f:Int) (h1 : -64≤f) (h2:f ≤ -1):bits .and .i64 f 1=f % 2:=by
 obtain ⟨m,rfl⟩:∃ m:Nat,f = -(m:Int):=⟨f.natAbs,by omega⟩
 have:∀ m:Nat,m<65→0<m→bits .and .i64 (-(m:Int)) 1=(-(m:Int)) % 2:=by decide +kernel
 exact this m (by omega) (by omega)
theorem bw_and {P:Program} {t:TypeId} {ox oy:Operand} {k:IntKind} {x y:Int}:BinR P .and t ox oy (.int k x) (.int k y) (.int k (bits .and k x y)):=fun w=>by
 simp [eqGuard,binOp,Op.intBits,Result.andThen]
 rfl
section
variable {P:Program} {N:Nat} {ops:Array Oper} {rest:List Oper} {env:List (Nat × D)} {box:List (Nat × Option Box)} {done:List Rec} {K:List Rec→List (Nat × D)→List (Nat × Option Box)→Prop} {d:Nat} {ty:TypeId} {pos:String} {aft:Array Edge}
theorem r_bitand {x y:Operand} {t t2:TypeId} {k:IntKind} {u v:Int} (h:RunK P N ops rest ((d,.val (.int k (bits .and k u v)))::env) box (done++[⟨[],some d,.val (.int k (bits .and k u v)),[],[]⟩]) K) (hx:autoParam (Op1 env x (.val (.int k u))) aq1._auto_1) (hy:autoParam (Op1 env y (.val (.int k v))) aq1._auto_1) (hd:Nat.blt d N=true:=by rfl):RunK P N ops (⟨some d,.binOp .and t x y t2,ty,pos,aft,none⟩::rest) env box done K:=r_bin hx hy bw_and hd h
end
theorem turns_eq {p:PD} {n:Nat} (hn:p.n=(n:Int)) (n32:n≤32) (f:Int):(decide (f ≤ -3) && decide (-2*p.n<f) && decide (f % 2=1))=(decide (f ≤ -3) && decide (-2*p.n<f) && decide (bits .and .i64 f 1=1)):=by
 by_cases h1:f ≤ -3
 ·by_cases h2 : -2*p.n<f
  ·rw [and1_neg f (by omega) (by omega)]
  ·rw [decide_eq_false h2];simp
 ·rw [decide_eq_false h1];simp
theorem swturns_den (p:PD) (f:Int) (hg:Good p.par):Den Tryz.prog 94 [.agg (parL true p),.val (.int .i64 f)] (.val (.bool (decide (f ≤ -3) && decide (-2*p.n<f) && decide (f % 2=1)))):=by
 obtain ⟨n,hn,n4,n32⟩:=good_n hg
 rw [turns_eq hn n32]
 refine den_intro (fn:=Tryz.f94) rfl rfl rfl rfl rfl ?_
 refine go ?_
 refine g_callM (hl:=fun hb=>r_bitand (run_fin rfl)) (h:=?_)
 refine go ?_
 refine fin ?_
 exact cv
def fitE (p:PD) (e:EG):Bool:=e.sp && decide (e.lv=(p.chain.length:Int)) && eOk p e
theorem swCheckKey1_den (p:PD) (hvp:VP p) (e:EG) (hln:∀ k,e.ln k≤1000000) (hm:e.m≤1000000):Den Tryz.prog 92 [.agg (elD true e),.fptr true (parL true p)] (.val (.bool (fitE p e))):=by
 refine den_intro (fn:=Tryz.f92) rfl rfl rfl rfl rfl ?_
 have l24:=hvp.len2
 refine go ?_
 refine g_callM (hl:=fun hb=>r_call (rgCheck_den p hvp e.lv e.sp e.m e.ln e.g hln hm) (run_fin rfl)) (h:=?_)
 refine go ?_
 unfold fitE
 rw [show eOk p e=decide (errI (elOk p e.lv e.sp e.m e.ln e.g)=0) from (errI_0 _).symm]
 refine fin ?_
 exact cv
theorem swall_den (A:LG) (T:EG→Bool) {fl:FuncId} {fn:Func} [FI Tryz.prog fl fn] (l1:List D) [OldDL l1] (hA:A.m≤1000000) (hT:∀ i,i<A.m→Den Tryz.prog fl [.agg (elD true (A.E i)),.fptr true l1] (.val (.bool (T (A.E i))))):Den Tryz.prog 45 [lgD true A,.clo fl [.fptr true l1]] (.val (.bool (evry (fun i=>T (A.E i)) A.m))):=by
 refine den_intro (fn:=Tryz.f45) rfl rfl rfl rfl rfl ?_
 refine go ?_
 refine c_down (fun j=>A.m - j) (fun j=>j≤A.m∧∀ k,k<j→T (A.E k)=true) (fun j:Nat=>[(9,.val (.int .i64 (j:Int)))]) (fun _=>[]) 0 (fun j ⟨hj,hp⟩=>?_) ⟨by omega,fun e he=>by omega⟩
 refine go ?_
 refine c_if (fun h3=>?_) (fun h3=>?_)
 ·refine go ?_
  refine r_callO (hT j h3) ?_
  refine go ?_
  refine c_ifB (fun h4=>?_) (fun h4=>?_)
  ·refine go ?_
   refine fin ?_
   rw [evry_no (f:=fun i=>T (A.E i)) h3 (by simpa using h4)]
   exact cv
  ·refine go ?_
   refine ⟨j+1,⟨by omega,fun i hi=>?_⟩,by omega,?_⟩
   ·by_cases q:i<j
    ·exact hp i q
    ·obtain rfl:i=j:=by omega
     simpa using h4
   ·exact sub
 ·refine go ?_
  refine fin ?_
  rw [evry_iff.2 (fun k hk=>hp k (by omega))]
  exact cv

abbrev keyD (o:Bool) (f:Int) (A B:LG):List D:=[.val (.int .i64 f),lgD o A,lgD o B]
noncomputable def keyB (p:PD) (f:Int) (A B:LG):Bool:=goodB p && fromB p f && decide (A.m=p.chain.length) && decide (B.m=p.chain.length) && evry (fun i=>fitE p (A.E i)) A.m && evry (fun i=>fitE p (B.E i)) B.m
structure LFit (A:LG):Prop where
 m:A.m≤1000000
 e:∀ i,(A.E i).m≤1000000
 l:∀ i k,(A.E i).ln k≤1000000
theorem swCheckKey_den (p:PD) (hp:PFit p) (f:Int) (A B:LG) (hA:LFit A) (hB:LFit B):Den Tryz.prog 34 [.agg (parL true p),.agg (keyD true f A B)] (.val (.int .i64 (errI (keyB p f A B)))):=by
 refine den_intro (fn:=Tryz.f34) rfl rfl rfl rfl rfl ?_
 refine c_sreg ?_
 refine gor ?_
 refine c_frz 1002 ?_
 refine c_slot 2 (.fptr false (parL true p)) ?_
 refine go ?_
 refine r_call (pcheck_den p hp) ?_
 refine go ?_
 refine c_ifB (fun h1=>?_) (fun h1=>?_)
 ·refine go ?_
  refine fin ?_
  rw [show keyB p f A B=false by
   unfold keyB
   cases q:goodB p with
   | true=>rw [q] at h1;exact absurd h1 (by decide)
   | false=>rfl]
  exact cv
 ·have hgb:goodB p=true:=guard_good1 (by rw [h1];rfl)
  have hg:=goodB_iff.1 hgb
  have hvp:=good_VP hg
  have l24:=hvp.len2
  have hAm:=hA.m
  have hBm:=hB.m
  refine go ?_
  refine g_callM (hl:=fun hb=>r_call (swturns_den p f hg) (run_fin rfl)) (h:=?_)
  refine go ?_
  refine c_ifB (fun h2=>?_) (fun h2=>?_)
  ·refine go ?_
   refine fin ?_
   rw [show keyB p f A B=false by
    have:fromB p f=false:=by
     unfold fromB
     by_cases q:f=2
     ·rw [decide_eq_false (show ¬ f≠2 by simp [q])] at h2;cases h2
     ·rw [decide_eq_true (show f≠2 from q),Bool.true_and] at h2
      rw [decide_eq_false q,Bool.false_or]
      exact (Bool.not_eq_true' _).mp h2
    unfold keyB
    rw [this];simp]
   exact cv
  ·have hf:fromB p f=true:=by
    unfold fromB
    by_cases q:f=2
    ·rw [decide_eq_true q];rfl
    ·rw [decide_eq_true (show f≠2 from q),Bool.true_and] at h2
     rw [decide_eq_false q,Bool.false_or]
     exact (Bool.not_eq_false' _).mp h2
   refine go ?_
   refine c_if (fun h3=>?_) (fun h3=>?_)
   ·refine go ?_
    refine fin ?_
    rw [show keyB p f A B=false by unfold keyB;rw [decide_eq_false (show ¬ A.m=p.chain.length from h3)];simp]
    exact cv
   ·replace h3:A.m=p.chain.length:=by omega
    refine go ?_
    refine c_if (fun h4=>?_) (fun h4=>?_)
    ·refine go ?_
     refine fin ?_
     rw [show keyB p f A B=false by unfold keyB;rw [decide_eq_false (show ¬ B.m=p.chain.length from h4)];simp]
     exact cv
    ·replace h4:B.m=p.chain.length:=by omega
     refine go ?_
     refine r_callO (swall_den A (fitE p) (parL true p) hA.m (fun i hi=>swCheckKey1_den p hvp (A.E i) (hA.l i) (hA.e i))) ?_
     refine go ?_
     refine c_ifB (fun h5=>?_) (fun h5=>?_)
     ·refine go ?_
      refine fin ?_
      rw [show keyB p f A B=false by unfold keyB;rw [show evry (fun i=>fitE p (A.E i)) A.m=false by simpa using h5];simp]
      exact cv
     ·refine go ?_
      refine r_callO (swall_den B (fitE p) (parL true p) hB.m (fun i hi=>swCheckKey1_den p hvp (B.E i) (hB.l i) (hB.e i))) ?_
      refine go ?_
      refine c_ifB (fun h6=>?_) (fun h6=>?_)
      ·refine go ?_
       refine fin ?_
       rw [show keyB p f A B=false by unfold keyB;rw [show evry (fun i=>fitE p (B.E i)) B.m=false by simpa using h6];simp]
       exact cv
      ·refine go ?_
       refine fin ?_
       rw [show keyB p f A B=true by unfold keyB;rw [hgb,hf,decide_eq_true h3,decide_eq_true h4,show evry (fun i=>fitE p (A.E i)) A.m=true by simpa using h5,show evry (fun i=>fitE p (B.E i)) B.m=true by simpa using h6];rfl]
       exact cv

instance fi148:FI Tryz.prog 148 Tryz.f148:=⟨Tryz.func148,Tryz.call148⟩
section
variable {P:Program} {N:Nat} {ops:Array Oper} {rest:List Oper} {env:List (Nat × D)} {box:List (Nat × Option Box)} {done:List Rec} {K:List Rec→List (Nat × D)→List (Nat × Option Box)→Prop} {d:Nat} {ty:TypeId} {pos:String} {aft:Array Edge}
theorem r_negi {x:Operand} {t:TypeId} {k:IntKind} {u:Int} (hn:InK k (-u)) (h:RunK P N ops rest ((d,.val (.int k (-u)))::env) box (done++[⟨[],some d,.val (.int k (-u)),[],[]⟩]) K) (hx:autoParam (Op1 env x (.val (.int k u))) aq1._auto_1) (hd:Nat.blt d N=true:=by rfl):RunK P N ops (⟨some d,.unOp .neg t x,ty,pos,aft,none⟩::rest) env box done K:=r_un hx (un_neg hn) hd h
end
theorem r13Auto_den (p:PD) (k:Int) (hg:Good p.par):Den Tryz.prog 148 [.agg (parL true p),.val (.int .i64 k)] (.val (.bool (decide (1≤k) && decide (k<2*p.n) && decide (k.tmod 2=1)))):=by
 obtain ⟨n,hn,n4,n32⟩:=good_n hg
 rw [show (2:Int)*p.n=((2*n:Nat):Int) by omega]
 refine den_intro (fn:=Tryz.f148) rfl rfl rfl rfl rfl ?_
 refine go ?_
 refine fin ?_
 exact cv
theorem from_eq {p:PD} {n:Nat} (hn:p.n=(n:Int)) (n32:n≤32) (f:Int):fromB p f=(decide (f=2) || (decide (f ≤ -3) && decide (-2*p.n<f) && (decide (1 ≤ -f) && decide (-f<2*p.n) && decide ((-f).tmod 2=1)))):=by
 unfold fromB
 by_cases h1:f ≤ -3
 ·by_cases h2 : -2*p.n<f
  ·rw [decide_eq_true (show 1 ≤ -f by omega),decide_eq_true (show -f<2*p.n by omega)]
   have:(f % 2=1)=((-f).tmod 2=1):=by
    rw [Int.tmod_eq_emod_of_nonneg (by omega)]
    exact propext (by omega)
   simp only [this,Bool.true_and]
  ·rw [decide_eq_false h2];simp
 ·rw [decide_eq_false h1];simp
theorem from_guard {a f m:Int} (h:(decide (f=a) == false && (decide (f ≤ -3) && decide (m<f)) == true)=true):f ≤ -3∧m<f:=by
 simp at h
 exact h.2
theorem r18from_den (p:PD) (f:Int) (hg:Good p.par):Den Tryz.prog 83 [.agg (parL true p),.val (.int .i64 f)] (.val (.bool (fromB p f))):=by
 obtain ⟨n,hn,n4,n32⟩:=good_n hg
 rw [from_eq hn n32]
 refine den_intro (fn:=Tryz.f83) rfl rfl rfl rfl rfl ?_
 refine go ?_
 refine g_call (hl:=fun hb=>r_negi (k:=.i64) (u:=f) (by have:=from_guard hb;show _∧_;omega) (run_fin rfl)) (h:=?_)
 refine go ?_
 refine g_call (hl:=fun hb=>r_call (r13Auto_den p (-f) hg) (run_fin rfl)) (h:=?_)
 refine go ?_
 refine fin ?_
 exact cv
theorem r13Top_den (p:PD) (hvp:VP p) (hs:p.special≠0) (e:EG) (hln:∀ k,e.ln k≤1000000) (hm:e.m≤1000000):Den Tryz.prog 96 [.agg (parL true p),.agg (elD true e),.val (.bool true)] (.val (.bool (fitE p e))):=by
 refine den_intro (fn:=Tryz.f96) rfl rfl rfl rfl rfl ?_
 refine go ?_
 refine r_call (r09Check_den p hvp hs e hln hm) ?_
 refine go ?_
 rw [show fitE p e=(decide (errI (eOk p e)=0) && decide (e.lv=(p.chain.length:Int)) && (e.sp == true)) by
  unfold fitE
  rw [errI_0]
  cases e.sp<;>cases eOk p e<;>simp]
 refine fin ?_
 exact cv

theorem keyB_no {p:PD} {f:Int} {A B:LG} {j:Nat} (hA:j<A.m) (hB:j<B.m) (h:(!fitE p (A.E j) || !fitE p (B.E j))=true):keyB p f A B=false:=by
 unfold keyB
 cases q:fitE p (A.E j) with
 | false=>rw [evry_no (f:=fun i=>fitE p (A.E i)) hA q];simp
 | true=>
  rw [q] at h
  rw [evry_no (f:=fun i=>fitE p (B.E i)) hB (by simpa using h)];simp
theorem key_head {g f:Bool} {a b c:Nat} (h:(decide (errI g≠0) || !f || decide (a≠c) || decide (b≠c))=false):g=true∧f=true∧a=c∧b=c:=by
 cases g
 ·simp at h
 ·cases f
  ·simp at h
  ·simp at h;exact ⟨rfl,rfl,h.1,h.2⟩
theorem keyB_head {p:PD} {f:Int} {A B:LG} (h:(decide (errI (goodB p)≠0) || !fromB p f || decide (A.m≠p.chain.length) || decide (B.m≠p.chain.length))=true):keyB p f A B=false:=by
 unfold keyB
 cases q:goodB p
 ·rfl
 ·cases q2:fromB p f
  ·rfl
  ·by_cases q3:A.m=p.chain.length
   ·by_cases q4:B.m=p.chain.length
    ·rw [q,q2,decide_eq_false (show ¬ A.m≠p.chain.length by simp [q3]),decide_eq_false (show ¬ B.m≠p.chain.length by simp [q4])] at h
     exact absurd h (by decide)
    ·rw [decide_eq_false q4];simp
   ·rw [decide_eq_false q3];simp
theorem r18CheckKey_den (p:PD) (hp:PFit p) (f:Int) (A B:LG) (hA:LFit A) (hB:LFit B):Den Tryz.prog 35 [.agg (parL true p),.agg (keyD true f A B)] (.val (.int .i64 (errI (keyB p f A B)))):=by
 refine den_intro (fn:=Tryz.f35) rfl rfl rfl rfl rfl ?_
 have hAm:=hA.m
 have hBm:=hB.m
 refine go ?_
 refine r_call (r12check_den p hp) ?_
 refine go ?_
 refine g_callM (hl:=fun hb=>r_call (r18from_den p f (goodB_iff.1 (guard_good1 hb))) (run_fin rfl)) (h:=?_)
 refine go ?_
 refine c_ifB (fun h1=>?_) (fun h1=>?_)
 ·refine go ?_
  refine fin ?_
  rw [keyB_head h1]
  exact cv
 ·obtain ⟨hgb,hf,hA1,hB1⟩:=key_head h1
  have hg:=goodB_iff.1 hgb
  have hvp:=good_VP hg
  have hsp:=good_special hg
  have l24:=hvp.len2
  refine go ?_
  refine c_down (fun j=>A.m - j) (fun j=>j≤A.m∧∀ k,k<j→fitE p (A.E k)=true∧fitE p (B.E k)=true) (fun j:Nat=>[(5,.val (.int .i64 (j:Int)))]) (fun _=>[]) 0 (fun j ⟨hj,hF⟩=>?_) ⟨by omega,fun e he=>by omega⟩
  refine go ?_
  refine c_if (fun h3=>?_) (fun h3=>?_)
  ·refine go ?_
   refine r_call (r13Top_den p hvp hsp (A.E j) (hA.l j) (hA.e j)) ?_
   refine go ?_
   refine g_callM (hl:=fun hb=>r_call (r13Top_den p hvp hsp (B.E j) (hB.l j) (hB.e j)) (run_fin rfl)) (h:=?_)
   refine go ?_
   refine c_ifB (fun h4=>?_) (fun h4=>?_)
   ·refine go ?_
    refine fin ?_
    rw [keyB_no h3 (by omega) h4]
    exact cv
   ·refine go ?_
    refine ⟨j+1,⟨by omega,fun i hi=>?_⟩,by omega,?_⟩
    ·by_cases q:i<j
     ·exact hF i q
     ·obtain rfl:i=j:=by omega
      simpa using h4
    ·exact sub
  ·refine go ?_
   refine fin ?_
   rw [show keyB p f A B=true by unfold keyB;rw [hgb,hf,decide_eq_true hA1,decide_eq_true hB1,evry_iff.2 (fun k hk=>(hF k (by omega)).1),evry_iff.2 (fun k hk=>(hF k (by omega)).2)];rfl]
   exact cv

structure EIn (e:EG):Prop where
 m:e.m≤9223372036854775807
 l:∀ k,e.ln k≤9223372036854775807
 o2:∀ k,e.m≤k→e.ln k=0
 o3:∀ k j,e.ln k≤j→e.g k j=0

open Go.ChangeShapes Go.WideShapes Go.ChangeAt Go.RowKit Go.Deep Go.Joins

section
variable {H:Type} {enc:TypeId × Value→H} {w:World} {base:Nat} {spare:Nat→Bool} {held:Bool} {fuel:Nat} {x:DataW H × List MemPlace} {v:Value}
theorem slice_in {t e:TypeId} {k:Nat} (ht:Tryz.prog.underlying t=some (.slice e)) (hk:Tryz.prog.cellsOf e=k) (hk0:0<k) (h:DataW.trod enc Tryz.prog w base spare held fuel t [v]=some x) :
  ∃ ao len cap,v = .slice ao len cap∧len≤cap∧cap≤maxLen∧∃ n,∀ i,i<len→∃ b o cs y,ao=some ⟨b,o,none⟩∧cs.length=k∧(∀ j,j<k→w.cell? ⟨b,o+i*k+j,none⟩=cs[j]?)∧DataW.trod enc Tryz.prog w base spare held n e cs=some y:=by
 rcases DataW.trod_slice ht h with ⟨h0,_⟩ | ⟨a,len,cap,elems,rest,n,_,h0,_,hb,hl,hm,hlen,hel,_⟩
 ·exact ⟨none,0,0,by simpa using h0,by omega,by omega,0,fun i hi=>by omega⟩
 ·have hv:v = .slice (some a) len cap:=by simpa using h0
  rw [hk] at hel
  refine ⟨some a,len,cap,hv,hl,hm,n,fun i hi=>?_⟩
  have h2:=hel i hi
  rw [List.getElem?_eq_getElem (by omega)] at h2
  obtain ⟨cs,h3,h4⟩:=Option.bind_eq_some_iff.1 h2
  obtain ⟨_,h5,h6⟩:=World.cells?_some h3
  have ha:a=⟨a.block,a.off,none⟩:=by
   have h2':=hel 0 (by omega)
   rw [List.getElem?_eq_getElem (by omega)] at h2'
   obtain ⟨cs',h3',_⟩:=Option.bind_eq_some_iff.1 h2'
   obtain ⟨_,h5',h6'⟩:=World.cells?_some h3'
   have h7:=h6' 0 hk0
   rw [List.getElem?_eq_getElem (by omega),Nat.zero_mul] at h7
   exact addr_of_cell h7
  refine ⟨a.block,a.off,cs,_,by rw [← ha],h5,fun j hj=>?_,h4⟩
  have h7:=h6 j hj
  rw [ha,add_zero_addr,add_zero_addr] at h7
  exact h7
end
def Zw (w:World):Zn:=fun o b=>o=true∧b<w.heap.size
theorem cell_lt {w:World} {b o:Nat} {u:Value} (h:w.cell? ⟨b,o,none⟩=some u):b<w.heap.size:=by
 unfold World.cell? at h
 by_cases q:b<w.heap.size
 ·exact q
 ·rw [Array.getElem?_eq_none (by show w.heap.size≤b;omega)] at h;cases h
open Classical in
theorem choose_fun {α:Type} (d:α) (n:Nat) (Q:Nat→α→Prop) (h:∀ i,i<n→∃ x,Q i x):∃ F:Nat→α,(∀ i,i<n→Q i (F i))∧∀ i,n≤i→F i=d:=by
 refine ⟨fun i=>if q:i<n then Classical.choose (h i q) else d,fun i hi=>?_,fun i hi=>dif_neg (by omega)⟩
 show Q i (dite _ _ _)
 rw [dif_pos hi]
 exact Classical.choose_spec (h i hi)
section
variable {H:Type} {enc:TypeId × Value→H} {w:World} {base:Nat} {spare:Nat→Bool} {held:Bool} {fuel:Nat} {x:DataW H × List MemPlace} {v:Value}
theorem slice_rep {t e:TypeId} {k:Nat} (ht:Tryz.prog.underlying t=some (.slice e)) (hk:Tryz.prog.cellsOf e=k) (hk0:0<k) (h:DataW.trod enc Tryz.prog w base spare held fuel t [v]=some x) {Q:List D→Prop}
  (hel:∀ (n:Nat) (cs:List Value) (y:DataW H × List MemPlace),cs.length=k→DataW.trod enc Tryz.prog w base spare held n e cs=some y→∃ ds:List D,ds.length=k∧Q ds∧∀ j,j<k→(cs.getD j undef).oneCell'=true∧Rep (Zw w) w noN (cs.getD j undef) (dl ds j)) :
  ∃ (len:Nat) (f:Nat→List D),len≤9223372036854775807∧(∀ i,i<len→Q (f i))∧∀ f':Nat→List D,(∀ i,i<len→f' i=f i)→Rep (Zw w) w noN v (.fz true len k f'):=by
 obtain ⟨ao,len,cap,rfl,hl,hm,n,hq⟩:=slice_in ht hk hk0 h
 unfold maxLen at hm
 have hx:∀ i,i<len→∃ ds:List D,Q ds∧ds.length=k∧∃ b o,ao=some ⟨b,o,none⟩∧∀ j,j<k→∃ u,w.cell? ⟨b,o+(i*k+j),none⟩=some u∧u.oneCell'=true∧Rep (Zw w) w noN u (dl ds j):=fun i hi=>by
  obtain ⟨b,o,cs,y,e1,e2,e3,e4⟩:=hq i hi
  obtain ⟨ds,d1,d2,d3⟩:=hel n cs y e2 e4
  refine ⟨ds,d2,d1,b,o,e1,fun j hj=>⟨cs.getD j undef,?_,d3 j hj⟩⟩
  rw [← Nat.add_assoc,e3 j hj,List.getD_eq_getElem?_getD,List.getElem?_eq_getElem (by omega)];rfl
 obtain ⟨f,hf,_⟩:=choose_fun [] len _ hx
 refine ⟨len,f,by omega,fun i hi=>(hf i hi).1,fun f' hf'=>?_⟩
 cases ao with
 | none=>
  have:len=0:=by
   rcases Nat.eq_zero_or_pos len with q | q
   ·exact q
   ·obtain ⟨_,_,_,_,e,_⟩:=hf 0 q;cases e
  subst this
  exact .fz _ _ none 0 cap k f' (fun _ _=>undef) hl (by omega) (fun e he=>by omega) (fun e c he=>by omega) (fun e c he=>by omega)
 | some ad=>
  obtain ⟨B,O,sp⟩:=ad
  refine .fz _ _ (some ⟨B,O,sp⟩) len cap k f' (fun e c=>(w.cell? ⟨B,O+(e*k+c),none⟩).getD undef) hl (by omega) (fun e he=>by rw [hf' e he];exact (hf e he).2.1) (fun e c he hc=>?_) (fun e c he hc=>?_)
  ·obtain ⟨_,_,b,o,e1,e2⟩:=hf e he
   cases e1
   obtain ⟨u,u1,u2,_⟩:=e2 c hc
   refine ⟨B,O,rfl,⟨rfl,cell_lt u1⟩,?_,?_⟩
   ·simp [u1]
   ·simpa [u1] using u2
  ·obtain ⟨_,_,b,o,e1,e2⟩:=hf e he
   cases e1
   obtain ⟨u,u1,_,u3⟩:=e2 c hc
   rw [hf' e he]
   simpa [u1] using u3
theorem words_rep (h:DataW.trod enc Tryz.prog w base spare held fuel 23 [v]=some x):∃ (l:List Nat),l.length≤9223372036854775807∧v.oneCell'=true∧Rep (Zw w) w noN v (.fz true l.length 1 (fun j=>[.val (.int .u32 ((l.getD j 0:Nat):Int))])):=by
 obtain ⟨ao,c,l,rfl,_,h2,h3,h4,h5⟩:=words_in h
 unfold maxLen at h3
 refine ⟨l,by omega,rfl,.fz _ _ ao _ c 1 _ (fun j _=>.int .u32 ((l.getD j 0:Nat):Int)) h2 (by omega) (fun _ _=>rfl) (fun e c he hc=>?_) (fun e c he hc=>?_)⟩
 ·obtain ⟨b,o,e1,e2⟩:=h4 e he
  obtain rfl:c=0:=by omega
  refine ⟨b,o,e1,⟨rfl,cell_lt (e2 e he)⟩,?_,rfl⟩
  rw [Nat.mul_one,Nat.add_zero];exact e2 e he
 ·obtain rfl:c=0:=by omega
  exact .val _ _
def EFit (E:EG):Prop:=E.m≤9223372036854775807∧(∀ k,E.ln k≤9223372036854775807)∧(∀ k,E.m≤k→E.ln k=0)∧∀ k j,E.ln k≤j→E.g k j=0
set_option maxRecDepth 100000 in
theorem elem_rep {cs:List Value} (h:DataW.trod enc Tryz.prog w base spare held fuel 35 cs=some x) :
  ∃ E:EG,cs.length=3∧EFit E∧∀ j,j<3→(cs.getD j undef).oneCell'=true∧Rep (Zw w) w noN (cs.getD j undef) (dl (elD true E) j):=by
 obtain ⟨xs,n,_,_,hl,hlen,hf⟩:=DataW.trod_struct Tryz.underlying35 h
 have hl3:cs.length=3:=hl.trans (by kernel_rfl)
 match cs,hl3 with
 | [c0,c1,c2],_=>
  match xs,hlen with
  | [y0,y1,y2],_=>
   have f0:=hf 0 _ rfl
   have f1:=hf 1 _ rfl
   have f2:=hf 2 _ rfl
   have g0:DataW.trod enc Tryz.prog w base spare held n 3 [c0]=some y0:=by
    have e:Tryz.prog.cellsOf 3=1:=by kernel_rfl
    simpa [e] using f0
   have g1:DataW.trod enc Tryz.prog w base spare held n 4 [c1]=some y1:=by
    have e:Tryz.prog.cellsOf 4=1:=by kernel_rfl
    simpa [e] using f1
   have g2:DataW.trod enc Tryz.prog w base spare held n 33 [c2]=some y2:=by
    have e:Tryz.prog.cellsOf 33=1:=by kernel_rfl
    simpa [e] using f2
   obtain ⟨z0,e0,_,w0⟩:=DataW.trod_int Tryz.underlying3 g0
   obtain ⟨z1,e1,_⟩:=DataW.trod_bool Tryz.underlying4 g1
   simp at e0 e1
   subst e0 e1
   obtain ⟨_,_,_,hc2,_⟩:=slice_in Tryz.underlying33 (k:=1) (by kernel_rfl) (by omega) g2
   obtain ⟨len,f,h1,h2,h3⟩:=slice_rep (k:=1) Tryz.underlying33 (by kernel_rfl) (by omega) g2 (Q:=fun ds=>∃ l:List Nat,l.length≤9223372036854775807∧ds=[.fz true l.length 1 (fun j=>[.val (.int .u32 ((l.getD j 0:Nat):Int))])]) (fun n cs y hl ht=>by
    match cs,hl with
    | [c0],_=>
     obtain ⟨l,l1,l2,l3⟩:=words_rep ht
     refine ⟨_,rfl,⟨l,l1,rfl⟩,fun j hj=>?_⟩
     obtain rfl:j=0:=by omega
     exact ⟨l2,l3⟩)
   obtain ⟨L,l1,l2⟩:=choose_fun ([]:List Nat) len _ h2
   refine ⟨⟨z0,z1,len,fun k=>(L k).length,fun k j=>(L k).getD j 0⟩,rfl,⟨h1,fun k=>?_,fun k hk=>by show (L k).length=0;rw [l2 k hk];rfl,fun k j hj=>by show (L k).getD j 0=0;rw [List.getD_eq_getElem?_getD,List.getElem?_eq_none hj];rfl⟩,fun j hj=>?_⟩
   ·show (L k).length≤_
    by_cases q:k<len
    ·exact (l1 k q).1
    ·rw [l2 k (by omega)];simp
   ·match j,hj with
    | 0,_=>exact ⟨rfl,.val _ _⟩
    | 1,_=>exact ⟨rfl,.val _ _⟩
    | 2,_=>exact ⟨by show c2.oneCell'=true;rw [hc2];rfl,h3 _ (fun i hi=>(l1 i hi).2.symm)⟩
set_option maxRecDepth 100000 in
theorem cipher_rep {cs:List Value} (h:DataW.trod enc Tryz.prog w base spare held fuel 43 cs=some x) :
  ∃ c:CG,cs.length=3∧Dflt c∧∀ j,j<3→(cs.getD j undef).oneCell'=true∧Rep (Zw w) w noN (cs.getD j undef) (dl (ciD true c) j):=by
 obtain ⟨xs,n,_,_,hl,hlen,hf⟩:=DataW.trod_struct Tryz.underlying43 h
 have hl3:cs.length=3:=hl.trans (by kernel_rfl)
 match cs,hl3 with
 | [c0,c1,c2],_=>
  match xs,hlen with
  | [y0,y1,y2],_=>
   have f0:=hf 0 _ rfl
   have f1:=hf 1 _ rfl
   have f2:=hf 2 _ rfl
   have ei:Tryz.prog.cellsOf 3=1:=by kernel_rfl
   have es:Tryz.prog.cellsOf 26=1:=by kernel_rfl
   have g0:DataW.trod enc Tryz.prog w base spare held n 3 [c0]=some y0:=by simpa [ei] using f0
   have g1:DataW.trod enc Tryz.prog w base spare held n 3 [c1]=some y1:=by simpa [ei] using f1
   have g2:DataW.trod enc Tryz.prog w base spare held n 26 [c2]=some y2:=by simpa [es] using f2
   obtain ⟨z0,e0,_,w0⟩:=DataW.trod_int Tryz.underlying3 g0
   obtain ⟨z1,e1,_,w1⟩:=DataW.trod_int Tryz.underlying3 g1
   simp at e0 e1
   subst e0 e1
   obtain ⟨_,_,_,hc2,_⟩:=slice_in Tryz.underlying26 (k:=3) (by kernel_rfl) (by omega) g2
   obtain ⟨len,f,h1,h2,h3⟩:=slice_rep (k:=3) Tryz.underlying26 (by kernel_rfl) (by omega) g2 (Q:=fun ds=>∃ E:EG,EFit E∧ds=elD true E) (fun n cs y hl ht=>by
    obtain ⟨E,_,k2,k3⟩:=elem_rep ht
    exact ⟨_,rfl,⟨E,k2,rfl⟩,k3⟩)
   obtain ⟨F,l1,l2⟩:=choose_fun (⟨0,false,0,fun _=>0,fun _ _=>0⟩:EG) len _ h2
   have hfit:∀ i,EFit (F i):=fun i=>by
    by_cases q:i<len
    ·exact (l1 i q).1
    ·rw [l2 i (by omega)];exact ⟨by simp,fun _=>by simp,fun _ _=>rfl,fun _ _ _=>rfl⟩
   refine ⟨⟨z0,z1,len,F⟩,rfl,{ k:=h1,m:=fun i=>(hfit i).1,l:=fun i=>(hfit i).2.1,o1:=fun i hi=>by show (F i).m=0;rw [l2 i hi],o2:=fun i=>(hfit i).2.2.1,o3:=fun i=>(hfit i).2.2.2 },fun j hj=>?_⟩
   match j,hj with
   | 0,_=>exact ⟨rfl,.val _ _⟩
   | 1,_=>exact ⟨rfl,.val _ _⟩
   | 2,_=>exact ⟨by show c2.oneCell'=true;rw [hc2];rfl,h3 _ (fun i hi=>(l1 i hi).2.symm)⟩
end
theorem Den.row {P:Program} {f:FuncId} {ds:List D} {u:Value} (h:Den P f ds (.val u)) {w:World} {args:List Value} (ha:RepsI (Zw w) w noN args ds):Calls P f args.toArray w fun e w'=>e = .returned u∧Below w.heap.size w w':=
 (h (fun b=>b<w.heap.size) w noN args (fun b hb=>hb) (fun _ _=>rfl) ⟨fun k B hm=>by simp at hm,fun k k' B B' b hm=>by simp at hm⟩ ha).mono (fun e w' ⟨v,i',Zn',p0,p1,_,_,_,_,_,_,p7⟩=>⟨by rw [p0,p7.valEq],⟨p1.os,p1.tape,p1.output,p1.size,fun b hb=>p1.block b hb (fun ⟨k,c,hk,_⟩=>by simp [Hs.keys] at hk)⟩⟩)

set_option maxRecDepth 100000
section
variable {H:Type} {enc:TypeId × Value→H} {w:World} {base:Nat} {spare:Nat→Bool} {held:Bool} {v:Value}
theorem cipher_one {b0:Nat} {r:Reach} {d:DataW H} {p:List MemPlace} (hv:Value.okWide Tryz.prog w r b0 43 v) (h:DataW.Trod enc Tryz.prog w base spare held 43 v d p) :
  ∃ c:CG,Dflt c∧Rep (Zw w) w noN v (.agg (ciD true c)):=by
 obtain ⟨cs,rfl,hsz⟩:=okWide_struct Tryz.underlying43 hv
 obtain ⟨l⟩:=cs
 have hl3:l.length=3:=hsz.trans (by kernel_rfl)
 obtain ⟨fuel,hf0⟩:=h
 match l,hl3 with
 | [a0,a1,a2],_=>
  obtain ⟨a,_,da,ra⟩:=cipher_rep (cs:=[a0,a1,a2]) (by simpa [Value.cells] using hf0)
  refine ⟨a,da,.agg _ [a0,a1,a2] _ rfl (fun j hj=>?_) (fun j hj=>?_)⟩
  ·match j,hj with
   | 0,_=>exact (ra 0 (by omega)).1
   | 1,_=>exact (ra 1 (by omega)).1
   | 2,_=>exact (ra 2 (by omega)).1
  ·match j,hj with
   | 0,_=>exact (ra 0 (by omega)).2
   | 1,_=>exact (ra 1 (by omega)).2
   | 2,_=>exact (ra 2 (by omega)).2
end

instance ti9:TI Tryz.prog 9 Tryz.t9 (.string ):=⟨by kernel_rfl,by kernel_rfl⟩
instance ti117:TI Tryz.prog 117 Tryz.t117 Tryz.t116.desc:=⟨by kernel_rfl,by kernel_rfl⟩
instance sz9:SZ Tryz.prog 9 1:=SZ.of ti9 rfl
instance zr117:ZR Tryz.prog 117 [.string { data:=#[] },.int .i64 0]:=ZR.of ti117 rfl rfl rfl
instance bt117:BT Tryz.prog 117 [(0,1),(1,1)] [.string { data:=#[] },.int .i64 0]:=BT.of (ns:=[1,1]) ti117 rfl zr117.zr ⟨sz9.sz,⟨sz3.sz,trivial⟩⟩ (by intro j;repeat (first | rfl | cases j with | zero=>rfl | succ j=>?_))
instance fi28:FI Tryz.prog 28 Tryz.f28:=⟨Tryz.func28,Tryz.call28⟩
instance fi151:FI Tryz.prog 151 Tryz.f151:=⟨Tryz.func151,Tryz.call151⟩
instance fi86:FI Tryz.prog 86 Tryz.f86:=⟨Tryz.func86,Tryz.call86⟩
set_option maxRecDepth 20000
abbrev listD (kd:IntKind) (o:Bool) (l:List Int):D:=.fz o l.length 1 (fun k=>[.val (.int kd (l.getD k 0))])
theorem rep_list {Z:Zn} {w:World} {i:Nm} {e:TypeId} {kd:IntKind} {v:Value} {l:List Int} (h:w.ownsRow 0 e 1 v l.length (l.map (Value.int kd))) (hZ:∀ b,v.ownBlock=some b→Z false b):Rep Z w i v (listD kd false l):=by
 rcases h.2 with ⟨rfl,h0⟩ | ⟨g,cap,cur,rfl,_,hB,hn,hm,hs,ht⟩
 ·obtain rfl:l=[]:=List.eq_nil_of_length_eq_zero h0
  exact .fz i false none 0 0 1 _ (fun _ _=>undef) (Nat.le_refl _) (by omega) (fun e he=>absurd he (Nat.not_lt_zero _)) (fun e c he=>absurd he (Nat.not_lt_zero _)) (fun e c he=>absurd he (Nat.not_lt_zero _))
 ·have hc:∀ k,k<l.length→cur.getD k undef = .int kd (l.getD k 0):=fun k hk=>by
   have h1:(cur.toList.take (l.length*1))[k]? = cur.toList[k]?:=by rw [List.getElem?_take,if_pos (by omega)]
   rw [ht,List.getElem?_map,List.getElem?_eq_getElem hk,Array.getElem?_toList] at h1
   rw [Array.getD_eq_getD_getElem?,← h1,List.getD_eq_getElem?_getD,List.getElem?_eq_getElem hk];rfl
  refine .fz i false _ l.length cap 1 _ (fun k _=>.int kd (l.getD k 0)) hn (by unfold maxLen at hm;omega) (fun _ _=>rfl) (fun k c hk hc'=>?_) (fun k c hk hc'=>?_)
  ·obtain rfl:c=0:=by omega
   refine ⟨g,0,rfl,hZ g rfl,?_,rfl⟩
   have:=(show Bk w g e cur from hB).cell k (by omega)
   rw [hc k hk] at this
   rw [show 0+(k*1+0)=k by omega]
   exact this
  ·obtain rfl:c=0:=by omega
   exact .val _ _
theorem den_state {P:Program} {f:FuncId} {t:TypeId} {us us':List Value} {es:List Value} {r:D} (hb0:(us.all fun u=>u.oneCell')=true) (hb1:(us'.all fun u=>u.oneCell')=true)
  (h:∀ b w,Bk w b t us.toArray→Calls P f ((.pointer (some ⟨b,0,none⟩)::es).toArray) w fun e w'=>∃ v,e = .returned v∧Bk w' b t us'.toArray∧STurn w w' [b]∧∃ Zn':Nat→Prop,(∀ x,Zn' x→w.heap.size≤x∧x<w'.heap.size)∧∀ (Z:Zn) i,(∀ x,Zn' x→Z false x)→Rep Z w' i v r) :
  DenH P f (.eptr 0 0 0 0::es.map .val) [(0,.lit t (us.map .val))] r [(0,.lit t (us'.map .val))] []:=fun Zc w i args hZ hi hH ha=>by
 obtain ⟨hl,hr⟩:=ha
 match args,hl with
 | v0::vs,hl=>
  have r0:Rep _ w i v0 (.eptr 0 0 0 0):=hr 0 (by simp)
  obtain ⟨b,cap,h0,rfl⟩:∃ b cap,i 0=some (some (b,cap))∧v0 = .pointer (some ⟨b,0,none⟩):=by
   cases r0 with | @eptr _ b cap _ _ _ _ h=>exact ⟨b,cap,h,rfl⟩
  have hvs:vs=es:=by
   refine List.ext_getElem (by simpa using hl) (fun j h1 h2=>?_)
   have:=hr (j+1) (by simp;omega)
   rw [show dl (D.eptr 0 0 0 0::es.map .val) (j+1) = .val es[j] by rw [dl,dl_eq,List.getD_eq_getElem?_getD,List.getElem?_map,List.getElem?_eq_getElem h2];rfl] at this
   have:=rep_val this
   rw [List.getD_eq_getElem?_getD,List.getElem?_cons_succ,List.getElem?_eq_getElem h1] at this
   exact this
  subst hvs
  have hB:Bk w b t us.toArray∧∀ x,Foot (.lit t (us.map .val)) (i 0) x→¬ Zc x:=by
   obtain ⟨_,h1 | ⟨h1,_⟩⟩:=hH.1 0 _ (List.mem_singleton.2 rfl)
   ·obtain ⟨b',cap',e1,e2,cs,e3,e4,e5⟩:=h1
    rw [h0] at e1;cases e1
    have:cs=us.toArray:=by
     refine Array.ext (by simpa using e4) (fun j h1 h2=>?_)
     have hj:j<us.length:=by simpa using h2
     have:=(e5 j (by simpa using hj)).2
     rw [show dl (us.map D.val) j = .val us[j] by rw [dl_eq,List.getD_eq_getElem?_getD,List.getElem?_map,List.getElem?_eq_getElem hj];rfl] at this
     have:=rep_val this
     rw [Array.getD_eq_getD_getElem?,Array.getElem?_eq_getElem h1] at this
     simpa using this
    subst this
    exact ⟨e3,fun x hx hz=>e2 x hx ⟨rfl,hz⟩⟩
   ·rw [h0] at h1;cases h1
  refine (h b w hB.1).mono fun e w' ⟨v,he,hB',ht,Zn',hz1,hz2⟩=>?_
  refine ⟨v,i,Zn',he,⟨ht.os,ht.tape,ht.output,ht.size,fun x hx hM=>ht.block x hx (fun hm=>hM ?_)⟩,hz1,fun k _=>rfl,fun k hk _=>hi k hk,fun k B x hm=>by simp at hm,fun k B hm=>?_,⟨fun k B hm=>?_,fun k k' B B' x h1 h2 _ _=>?_⟩,hz2 _ _ (fun x hx=>hx)⟩
  ·obtain rfl:=List.mem_singleton.1 hm
   exact ⟨0,cap,by simp [Hs.keys],h0⟩
  ·obtain ⟨rfl,rfl⟩:=Prod.mk.inj (List.mem_singleton.1 hm);rfl
  ·rw [List.append_nil] at hm
   obtain ⟨rfl,rfl⟩:=Prod.mk.inj (List.mem_singleton.1 hm)
   refine ⟨rfl,.inl ⟨b,cap,h0,fun x hx hz=>?_,us'.toArray,hB',by simp,fun j hj=>?_⟩⟩
   ·obtain ⟨cp,e⟩:=hx.flat rfl
    rw [h0] at e;cases e
    rcases hz with hz | hz
    ·exact hB.2 b (.root h0) hz
    ·have:=(hz1 b hz).1;have:=hB.1.lt;omega
   ·have hj:j<us'.length:=by simpa using hj
    have e:us'.toArray.getD j undef=us'[j]:=by rw [Array.getD_eq_getD_getElem?];simp [hj]
    rw [e]
    refine ⟨List.all_eq_true.1 hb1 _ (List.getElem_mem hj),?_⟩
    rw [show dl (us'.map D.val) j = .val us'[j] by rw [dl_eq,List.getD_eq_getElem?_getD,List.getElem?_map,List.getElem?_eq_getElem hj];rfl]
    exact .val _ _
  ·rw [List.append_nil] at h1 h2
   rw [(Prod.mk.inj (List.mem_singleton.1 h1)).1,(Prod.mk.inj (List.mem_singleton.1 h2)).1]

theorem r09sum_rows (p:PD) (n lv:Nat) (sp:Bool) (h:Lv p n lv) (ga gb:Nat→Nat→Nat) (z:Int) (hz : -9223372036854775808≤z∧z≤9223372036854775807) (ha:Vg p lv ga) (hb:Vg p lv gb):DenH Tryz.prog 182 [.agg (parL true p),.agg (elL true lv sp (modN p lv sp) n ga),.agg (elL true lv sp (modN p lv sp) n gb),.val (.int .i64 z)] [] (.agg [.val (.int .i64 (lv:Int)),.val (.bool sp),.sl 1900 1 (modN p lv sp)]) [] [(1900,.arr 23 (modN p lv sp) 1 (fun k=>[u32sF false n (sumV p lv z ga gb k)]))]:=by
 refine den_intro (fn:=Tryz.f182) rfl rfl rfl rfl rfl ?_
 have hN:NatIs p.n n:=h.n
 have h32:=h.n32
 have h4:=h.n4
 have l1:=h.l1
 have l2:=h.l2
 have l24:=h.vp.len2
 have hm:=modQ_in h.vp h.sp h.l2
 have hM:modN p lv sp≤1001:=by unfold modN;split<;>omega
 obtain ⟨M,hMM⟩:∃ M,M=modN p lv sp:=⟨_,rfl⟩
 rw [← hMM] at hM ⊢
 refine go ?_
 have hmod:=r09Moduli_den p lv sp h.l2 (by omega)
 rw [← hMM] at hmod
 refine r_call hmod ?_
 refine go ?_
 refine c_nilcell 1009 2 1900 23 1 (fun k=>[u32sF false n (sumV p lv z ga gb k)]) ?_
 refine c_up M (fun i=>[(11,.val (.int .i64 (i:Nat)))]) (fun i=>[(1009,some (.lit 35 [.val (.int .i64 (lv:Int)),.val (.bool sp),.sl 1900 1 i])),(1900,some (.arr 23 i 1 (fun k=>[u32sF false n (sumV p lv z ga gb k)])))]) (fun i hi=>?_)
 refine go ?_
 have hq:=hm i
 refine c_if (fun h3=>?_) (fun h3=>?_)
 ·refine go ?_
  refine c_nil 12 1901 22 1 (fun j=>[.val (.int .u32 ((sumV p lv z ga gb i j:Nat):Int))]) ?_
  refine c_up n (fun j=>[(12,.sl 1901 1 j),(13,.val (.int .i64 (j:Nat)))]) (fun j=>[(1901,some (.arr 22 j 1 (fun j=>[.val (.int .u32 ((sumV p lv z ga gb i j:Nat):Int))])))]) (fun j hj=>?_)
  have hr:=resI_lt (x:=z) (show 0<modQ p lv i by omega)
  have ha':=ha i j
  have hb':=hb i j
  have hp:gb i j*resI z (modQ p lv i)≤2147483647*2147483647:=Nat.mul_le_mul (by omega) (by omega)
  have hs:sumV p lv z ga gb i j<modQ p lv i:=vg_sum h z ga gb i j
  unfold sumV at hs
  refine go ?_
  refine c_if (fun h4=>?_) (fun h4=>?_)
  ·refine go ?_
   refine r_callO (r09residue_den z (modQ p lv i) (by omega) (by omega) hz) ?_
   refine go ?_
   refine ⟨h4,?_⟩
   refine sub_arr (1000+72) (fun j=>[.val (.int .u32 ((sumV p lv z ga gb i j:Nat):Int))]) (appF_snoc rfl) (fun _=>rfl) ?_
   refine sub_toL [37] (1000+72) 1901 ?_
   exact sub
  ·obtain rfl:j=n:=by omega
   refine c_freeze 1901 ?_
   refine c_slot 12 (u32sF false j (sumV p lv z ga gb i)) ?_
   refine go ?_
   refine ⟨h3,?_⟩
   refine sub_arr (1000+77) (fun k=>[u32sF false j (sumV p lv z ga gb k)]) (appF_snoc rfl) (fun _=>rfl) ?_
   refine sub_toL [74] (1000+77) 1900 ?_
   exact sub
 ·obtain rfl:i=M:=by omega
  refine go ?_
  exact finN
abbrev elA (lv:Nat) (sp:Bool) (k M:Nat):List D:=[.val (.int .i64 (lv:Int)),.val (.bool sp),.sl k 1 M]
theorem r09MulInt_rows (p:PD) (n lv:Nat) (sp:Bool) (h:Lv p n lv) (g:Nat→Nat→Nat) (z:Int) (hz : -9223372036854775808≤z∧z≤9223372036854775807) (hg:Vg p lv g):DenH Tryz.prog 153 [.agg (parL true p),.agg (elL true lv sp (modN p lv sp) n g),.val (.int .i64 z)] [] (.tup [.agg (elA lv sp 1031 (modN p lv sp)),.val (.int .i64 0)]) [] [(1031,.arr 23 (modN p lv sp) 1 (fun k=>[u32sF false n (mulIntV p lv z g k)]))]:=by
 refine den_intro (fn:=Tryz.f153) rfl rfl rfl rfl rfl ?_
 have hN:NatIs p.n n:=h.n
 have h32:=h.n32
 have l1:=h.l2
 have l2:=h.vp.len2
 have hM:modN p lv sp≤1000000:=by unfold modN;split<;>omega
 have c1:=r09Check_den0 p h.vp h.sp (lv:Int) sp (modN p lv sp) (fun _=>n) g (fun _=>by omega) hM
 rw [elOk_valid (sp:=sp) h hg] at c1
 have hs:=r09sum_rows p n lv sp h (fun _ _=>0) g z hz (fun r _=>h.q0 r) hg
 rw [sumV_0] at hs
 refine go ?_
 refine r_call c1 ?_
 refine go ?_
 refine r_call (r09Zero_den p n lv sp h) ?_
 refine go ?_
 refine r_callA hs (r':=.agg (elA lv sp 1031 (modN p lv sp))) rfl ?_
 refine go ?_
 exact finN
theorem r13Scale_rows (p:PD) (n lv:Nat) (sp:Bool) (h:Lv p n lv) (g:Nat→Nat→Nat) (z:Int) (hz : -9223372036854775808≤z∧z≤9223372036854775807) (hg:Vg p lv g):DenH Tryz.prog 87 [.agg (parL true p),.agg (elL true lv sp (modN p lv sp) n g),.val (.int .i64 z)] [] (.agg (elA lv sp 1013 (modN p lv sp))) [] [(1013,.arr 23 (modN p lv sp) 1 (fun k=>[u32sF false n (mulIntV p lv z g k)]))]:=by
 refine den_intro (fn:=Tryz.f87) rfl rfl rfl rfl rfl ?_
 refine go ?_
 refine r_callA (r09MulInt_rows p n lv sp h g z hz hg) (r':=.tup [.agg (elA lv sp 1013 (modN p lv sp)),.val (.int .i64 0)]) rfl ?_
 refine go ?_
 exact finN

def prdV (p:PD) (lv n:Nat) (ga gb:Nat→Nat→Nat) (r j:Nat):Nat:=mulR (ga r) (gb r) (modQ p lv r) n j
theorem vg_prd {p:PD} {n lv:Nat} (h:Lv p n lv) (ga gb:Nat→Nat→Nat):Vg p lv (prdV p lv n ga gb):=fun r j=>Nat.mod_lt _ (h.q0 r)
theorem r09Mul_den (p:PD) (n lv:Nat) (sp:Bool) (h:Lv p n lv) (ga gb:Nat→Nat→Nat) (ha:Vg p lv ga) (hb:Vg p lv gb):Den Tryz.prog 118 [.agg (parL true p),.agg (elL true lv sp (modN p lv sp) n ga),.agg (elL true lv sp (modN p lv sp) n gb)] (.tup [.agg (elL false lv sp (modN p lv sp) n (prdV p lv n ga gb)),.val (.int .i64 0)]):=by
 refine den_intro (fn:=Tryz.f118) rfl rfl rfl rfl rfl ?_
 have hN:NatIs p.n n:=h.n
 have h32:=h.n32
 have hn4:=h.n4
 have l1:=h.l2
 have l2:=h.vp.len2
 have hm:=modQ_in h.vp h.sp h.l2
 have hM:modN p lv sp≤1001:=by unfold modN;split<;>omega
 have htwo:=r09two_den p n lv sp h ga gb ha hb
 have hmod:=r09Moduli_den p lv sp h.l2 (by omega)
 have hV:∀ r j,mulR (ga r) (gb r) (modQ p lv r) n j=prdV p lv n ga gb r j:=fun _ _=>rfl
 obtain ⟨V,hVV⟩:∃ V,prdV p lv n ga gb=V:=⟨_,rfl⟩
 rw [hVV] at hV ⊢
 obtain ⟨M,hMM⟩:∃ M,M=modN p lv sp:=⟨_,rfl⟩
 rw [← hMM] at hM hmod htwo ⊢
 refine go ?_
 refine r_call htwo ?_
 refine go ?_
 refine c_no ?_
 refine go ?_
 refine r_call hmod ?_
 refine go ?_
 refine c_nilcell 1008 2 1900 23 1 (fun k=>[.fz false n 1 (fun j=>[.val (.int .u32 ((V k j:Nat):Int))])]) ?_
 refine c_up M (fun i=>[(10,.val (.int .i64 (i:Nat)))]) (fun i=>[(1008,some (.lit 35 [.val (.int .i64 (lv:Int)),.val (.bool sp),.sl 1900 1 i])),(1900,some (.arr 23 i 1 fun k=>[.fz false n 1 (fun j=>[.val (.int .u32 ((V k j:Nat):Int))])]))]) (fun i hi=>?_)
 refine go ?_
 have hq:=hm i
 refine c_if (fun h3=>?_) (fun h3=>?_)
 ·have hpr:=r06Product_den (modQ p lv i) n (ga i) (gb i) (by omega) h32 (by omega) (by omega) (fun j=>by have:=ha i j;omega) (fun j=>by have:=hb i j;omega)
  simp only [hV] at hpr
  refine go ?_
  refine r_callO hpr ?_
  refine go ?_
  refine ⟨h3,?_⟩
  refine sub_arr (1000+52) (fun k=>[.fz false n 1 (fun j=>[.val (.int .u32 ((V k j:Nat):Int))])]) (appF_snoc rfl) (fun _=>rfl) ?_
  refine sub_toL [35] (1000+52) 1900 ?_
  exact sub
 ·obtain rfl:i=M:=by omega
  refine go ?_
  refine fin_freeze 1900 ?_
  refine fin ?_
  exact cv
theorem r13Mul_den (p:PD) (n lv:Nat) (sp:Bool) (h:Lv p n lv) (ga gb:Nat→Nat→Nat) (ha:Vg p lv ga) (hb:Vg p lv gb):Den Tryz.prog 54 [.agg (parL true p),.agg (elL true lv sp (modN p lv sp) n ga),.agg (elL true lv sp (modN p lv sp) n gb)] (.agg (elL false lv sp (modN p lv sp) n (prdV p lv n ga gb))):=by
 refine den_intro (fn:=Tryz.f54) rfl rfl rfl rfl rfl ?_
 refine go ?_
 refine r_call (r09Mul_den p n lv sp h ga gb ha hb) ?_
 refine go ?_
 refine fin ?_
 exact cv

theorem cvt_el {o:Bool} {lv:Nat} {sp:Bool} {M n:Nat} {A B:Nat→Nat→Nat} (h:∀ r j,r<M→j<n→A r j=B r j):Cvt (.agg (elL o lv sp M n A)) (.agg (elL o lv sp M n B)):=
 Cvt.agg (.cons (.of_eq rfl) (.cons (.of_eq rfl) (.cons (Cvt.fz (.inl rfl) (fun r hr=>⟨rfl,fun c hc=>by
  obtain rfl:c=0:=by have:c<1:=hc;omega
  exact Cvt.fz (.inl rfl) (fun j hj=>⟨rfl,fun c hc=>by
   obtain rfl:c=0:=by have:c<1:=hc;omega
   exact .of_eq (by show D.val (.int .u32 ((A r j:Nat):Int))=D.val (.int .u32 ((B r j:Nat):Int));rw [h r j hr hj])⟩)⟩)) .nil)))
theorem prd_comm {p:PD} {n lv:Nat} (h:Lv p n lv) (A B:Nat→Nat→Nat) (r j:Nat) (hj:j<n):prdV p lv n A B r j=prdV p lv n B A r j:=mulR_comm _ _ (h.q0 r) hj
theorem rgMulC_den (p:PD) (n lv:Nat) (sp:Bool) (h:Lv p n lv) (ga gb:Nat→Nat→Nat) (ha:Vg p lv ga) (hb:Vg p lv gb):Den Tryz.prog 79 [.agg (parL true p),.agg (elL true lv sp (modN p lv sp) n ga),.agg (elL true lv sp (modN p lv sp) n gb)] (.tup [.agg (elL false lv sp (modN p lv sp) n (prdV p lv n gb ga)),.val (.int .i64 0)]):=
 (rgMul_den p n lv sp h ga gb ha hb).res (Cvt.tup (.cons (cvt_el (fun r j _ hj=>prd_comm h ga gb r j hj)) (.cons (.of_eq rfl) .nil)))
theorem resI_1 {q:Nat} (h:2≤q):resI 1 q=1:=by
 have:=resI_small (show 1<q by omega)
 simpa using this
theorem sumV_1 {p:PD} {n lv:Nat} (h:Lv p n lv) (A B:Nat→Nat→Nat):sumV p lv 1 A B=addV p lv A B:=by
 funext r j
 have hm:=modQ_in h.vp h.sp h.l2 r
 unfold sumV addV
 rw [resI_1 (by omega),Nat.mul_one]
def innV (p:PD) (lv n:Nat) (L K:Nat→Nat→Nat→Nat):Nat→Nat→Nat→Nat
 | 0=>fun _ _=>0
 | j+1=>addV p lv (innV p lv n L K j) (prdV p lv n (L j) (K j))
theorem vg_inn {p:PD} {n lv:Nat} (h:Lv p n lv) (L K:Nat→Nat→Nat→Nat):∀ j,Vg p lv (innV p lv n L K j)
 | 0=>fun r _=>h.q0 r
 | _+1=>fun r _=>Nat.mod_lt _ (h.q0 r)
theorem divS_eq {p:PD} {n lv:Nat} (h:Lv p n lv) (b q t:Nat) (g:Nat→Nat→Nat):div18 p lv b q t g=downV p lv b q t g:=by
 have hm:=modQ_in h.vp h.sp h.l2
 have e:mulIntV p lv (t:Int) (intV p lv (fun j=>balI (g lv j*b % q) q))=intV p lv (fun j=>nearI b q t (g lv j)):=by
  funext k j
  unfold mulIntV intV nearI
  exact resI_mul (by have:=hm k;omega)
 have e2:pre18 p lv b q t g=subV p lv g (intV p lv (fun j=>nearI b q t (g lv j))):=by
  unfold pre18
  rw [e]
  funext k j
  unfold sumV subV
  have hk:=hm k
  rw [resI_neg1 (by omega)]
  exact sub_m1 (vg_int h _ k j) (by omega)
 unfold div18 downV
 rw [e2]

instance fi47:FI Tryz.prog 47 Tryz.f47:=⟨Tryz.func47,Tryz.call47⟩
instance fi112:FI Tryz.prog 112 Tryz.f112:=⟨Tryz.func112,Tryz.call112⟩
theorem swdivide1_den (p:PD) (n i b t:Nat) (last:Nat→Nat) (hi:i<n) (hn:n≤32) (h2:2≤p.special) (hq:p.special≤2147483647) (hl:∀ j,last j<p.special) (hb:b<p.special) (ht:t≤2147483647) :
  Den Tryz.prog 112 [.val (.int .i64 (i:Int)),.fptr true [u32sF true n last],.fptr true [.val (.int .u32 (b:Int))],.fptr true (parL true p),.fptr true [.val (.int .i64 (t:Int))]] (.val (.int .i64 (nearI b p.special t (last i)))):=by
 refine den_intro (fn:=Tryz.f112) rfl rfl rfl rfl rfl ?_
 have hx:=nearI_in (a:=last i) (b:=b) (show 0<p.special by omega) hq ht
 unfold nearI at hx
 refine go ?_
 refine r_call (mMul_den (last i) b p.special h2 hq (hl i) hb) ?_
 refine go ?_
 refine r_call (mBalanced_den (last i*b % p.special) p.special h2 hq (Nat.mod_lt _ (by omega))) ?_
 refine go ?_
 refine fin ?_
 exact cv
theorem swdivide_den (p:PD) (n lv t:Nat) (hL:Lv p n lv) (ht:t≤2147483647) (g:Nat→Nat→Nat) (hg:Vg p lv g) (b:Nat) (hb:b=invV (resI (t:Int) p.special) p.special) :
  Den Tryz.prog 47 [.agg (parL true p),.agg (elL true lv true (lv+1) n g),.val (.int .i64 (t:Int))] (.agg (elL false lv false lv n (downV p lv b p.special t g))):=by
 refine den_intro (fn:=Tryz.f47) rfl rfl rfl rfl rfl ?_
 have h32:=hL.n32
 have h4:=hL.n4
 have h1:=hL.l1
 have l2:=hL.l2
 have l24:=hL.vp.len2
 have hN:NatIs p.n n:=hL.n
 have hm:=modQ_in hL.vp hL.sp hL.l2
 have hq:p.special=modQ p lv lv:=by unfold modQ;rw [if_neg (by omega)]
 have hq2:=hm lv
 rw [← hq] at hq2
 have hgl:=hg lv
 rw [← hq] at hgl
 have hblt:b<p.special:=by rw [hb];exact invV_lt (by omega)
 have htl:=resI_lt (x:=(t:Int)) (show 0<p.special by omega)
 have hinv:=mInverse_den (resI (t:Int) p.special) p.special (by omega) hq2.2.1 htl
 rw [← hb] at hinv
 have hx:∀ j, -9223372036854775808≤nearI b p.special t (g lv j)∧nearI b p.special t (g lv j)≤9223372036854775807:=fun j=>by
  have:=nearI_in (a:=g lv j) (b:=b) (show 0<p.special by omega) hq2.2.1 ht
  omega
 have hnear:∀ i,i<n→Den Tryz.prog 112 [.val (.int .i64 (i:Int)),.fptr true [u32sF true n (g lv)],.fptr true [.val (.int .u32 (b:Int))],.fptr true (parL true p),.fptr true [.val (.int .i64 (t:Int))]] (.val (.int .i64 (nearI b p.special t (g lv i)))):=fun i hi=>swdivide1_den p n i b t (g lv) hi h32 (by omega) hq2.2.1 hgl hblt ht
 have hfi:Den Tryz.prog 75 [.agg (parL true p),.val (.int .i64 (lv:Int)),.val (.bool false),intsD true n (fun j=>nearI b p.special t (g lv j))] (.tup [.agg (elL false lv false lv n (intV p lv (fun j=>nearI b p.special t (g lv j)))),.val (.int .i64 0)]):=rgFromInts_den p n lv false hL (fun j=>nearI b p.special t (g lv j)) hx
 have hsu:DenH Tryz.prog 80 [.agg (parL true p),.agg (elL true lv false lv n g),.agg (elL true lv false lv n (intV p lv (fun j=>nearI b p.special t (g lv j))))] [] (.tup [.agg (elM lv false 1019 lv),.val (.int .i64 0)]) [] [(1019,u32M lv n (subV p lv g (intV p lv (fun j=>nearI b p.special t (g lv j)))))]:=rgSub_own p n lv false hL g (intV p lv (fun j=>nearI b p.special t (g lv j))) hg (vg_int hL _)
 have hre:Den Tryz.prog 115 [.agg (parL true p),.agg (elL true lv true (lv+1) n g),.val (.int .i64 (lv:Int)),.val (.bool false)] (.tup [.agg (elL false lv false lv n g),.val (.int .i64 0)]):=rgRestrictN_den p n lv hL g hg
 refine go ?_
 refine r_call (mOf_den (t:Int) p.special (by omega) hq2.2.1 (by omega)) ?_
 refine go ?_
 refine r_call hinv ?_
 refine go ?_
 refine c_arr (1000+51) (fun e=>[.val (.int .i64 (fillZ (fun j=>nearI b p.special t (g lv j)) 0 e))]) (fun e _=>by rw [show fillZ (fun j=>nearI b p.special t (g lv j)) 0 e=0 by simp [fillZ]]) (fun _=>rfl) ?_
 refine c_up n (fun j=>[(54,.val (.int .i64 (j:Nat)))]) (fun j=>[(1051,some (.arr 2 n 1 (fun e=>[.val (.int .i64 (fillZ (fun j=>nearI b p.special t (g lv j)) j e))])))]) (fun j hj=>?_)
 refine go ?_
 refine c_if (fun h3=>?_) (fun h3=>?_)
 ·refine go ?_
  refine r_call (hnear j h3) ?_
  refine go ?_
  refine ⟨h3,?_⟩
  refine sub_arr 1051 _ (fun e _=>setE_fillZ rfl e) (fun _=>rfl) ?_
  exact sub
 obtain rfl:j=n:=by omega
 refine c_arr 1051 (n:=j) (f:=fun e=>[.val (.int .i64 (fillZ (fun x=>nearI b p.special t (g lv x)) j e))]) (fun e=>[.val (.int .i64 (nearI b p.special t (g lv e)))]) (fun e he=>by rw [show fillZ (fun x=>nearI b p.special t (g lv x)) j e=nearI b p.special t (g lv e) from if_pos he]) (fun _=>rfl) ?_
 refine go ?_
 refine r_eqS 68 (.sl 1051 1 j) rfl ?_
 refine r_call hfi ?_
 refine go ?_
 refine r_call hre ?_
 refine go ?_
 refine r_callN hsu (r':=.tup [.agg (elM lv false 1084 lv),.val (.int .i64 0)]) rfl ?_
 refine go ?_
 have hGq:∀ i x,subV p lv g (intV p lv (fun j=>nearI b p.special t (g lv j))) i x<modQ p lv i:=vg_sub hL _ _
 have hF:∀ i x,subV p lv g (intV p lv (fun j=>nearI b p.special t (g lv j))) i x*lowB p lv p.special i % modQ p lv i=downV p lv b p.special t g i x:=fun i x=>rfl
 clear hfi hre hsu hinv hx hnear hgl hg
 obtain ⟨G,hG⟩:∃ G,subV p lv g (intV p lv (fun j=>nearI b p.special t (g lv j)))=G:=⟨_,rfl⟩
 obtain ⟨F,hFF⟩:∃ F,downV p lv b p.special t g=F:=⟨_,rfl⟩
 rw [hG] at hGq hF
 rw [hFF] at hF ⊢
 refine c_mat 1084 (fun k j=>[.val (.int .u32 ((fill2 F G 0 0 k j:Nat):Int))]) (fun e x he hx=>by rw [fill2_0,← hG]) (fun _ _=>rfl) ?_
 refine c_up lv (fun i=>[(90,.val (.int .i64 (i:Nat)))]) (fun i=>[(1084,some (.mat 23 22 lv lv 1 j (fun k x=>[.val (.int .u32 ((fill2 F G i 0 k x:Nat):Int))])))]) (fun i hi=>?_)
 refine go ?_
 have hqi:=hm i
 refine c_if (fun h5=>?_) (fun h5=>?_)
 ·have h5':i<lv:=by omega
  have e:modQ p lv i=p.chain.getD i 0:=by unfold modQ;rw [if_pos h5']
  have hof2:=mOf_den (p.special:Int) (modQ p lv i) (by omega) (by omega) (by omega)
  have hinv2:=mInverse_den (resI (p.special:Int) (modQ p lv i)) (modQ p lv i) (by omega) (by omega) (resI_lt (by omega))
  have hlw:lowB p lv p.special i<modQ p lv i:=invV_lt (by omega)
  have hlb:invV (resI (p.special:Int) (modQ p lv i)) (modQ p lv i)=lowB p lv p.special i:=rfl
  rw [hlb] at hinv2
  rw [e] at hof2 hinv2
  refine go ?_
  refine r_callO hof2 ?_
  refine go ?_
  refine r_callO hinv2 ?_
  refine go ?_
  refine c_up j (fun x=>[(116,.val (.int .i64 (x:Nat)))]) (fun x=>[(1084,some (.mat 23 22 lv lv 1 j (fun k y=>[.val (.int .u32 ((fill2 F G i x k y:Nat):Int))])))]) (fun x hx=>?_)
  refine go ?_
  refine c_if (fun h6=>?_) (fun h6=>?_)
  ·have hmul:=mMul_den (fill2 F G i x i x) (lowB p lv p.special i) (modQ p lv i) (by omega) (by omega) (by rw [fill2_at];exact hGq i x) hlw
   rw [show fill2 F G i x i x*lowB p lv p.special i % modQ p lv i=F i x by rw [fill2_at];exact hF i x,e] at hmul
   refine go ?_
   refine r_callO hmul ?_
   refine go ?_
   refine ⟨h6,?_⟩
   refine sub_mat 1084 (fun k y=>[.val (.int .u32 ((fill2 F G i (x+1) k y:Nat):Int))]) (fun r y _ _=>fill2_set rfl r y) (fun _ _=>rfl) ?_
   exact sub
  ·obtain rfl:x=j:=by omega
   refine go ?_
   refine ⟨h5',?_⟩
   refine sub_mat 1084 (n:=lv) (n2:=x) (g:=fun k y=>[.val (.int .u32 ((fill2 F G i x k y:Nat):Int))]) (fun k y=>[.val (.int .u32 ((fill2 F G (i+1) 0 k y:Nat):Int))]) (fun r y _ hy=>by rw [fill2_row (r:=r) hy]) (fun _ _=>rfl) ?_
   exact sub
 ·obtain rfl:i=lv:=by omega
  refine go ?_
  refine fin_mat 1084 (n:=i) (n2:=j) (g:=fun k y=>[.val (.int .u32 ((fill2 F G i 0 k y:Nat):Int))]) (fun k y=>[.val (.int .u32 ((F k y:Nat):Int))]) (fun r y hr _=>by rw [fill2_all hr]) (fun _ _=>rfl) ?_
  refine fin_freezeM 1084 ?_
  refine fin ?_
  exact cv

def auA (n k j:Nat):Nat:=j*k % (2*n)
def auP (n k j:Nat):Nat:=if auA n k j<n then auA n k j else auA n k j - n
def auW (n k q:Nat) (row:Nat→Nat) (j:Nat):Nat:=if auA n k j<n then row j else (q - row j) % q
def auR (n k q:Nat) (row:Nat→Nat):Nat→Nat→Nat
 | 0=>fun _=>0
 | j+1=>fun e=>if e=auP n k j then auW n k q row j else auR n k q row j e
theorem auW_lt {n k q:Nat} {row:Nat→Nat} {j:Nat} (hr:row j<q):auW n k q row j<q:=by
 unfold auW
 split
 ·exact hr
 ·exact Nat.mod_lt _ (by omega)
theorem auR_lt {n k q:Nat} {row:Nat→Nat} (hq:0<q) (hr:∀ j,row j<q) (e:Nat):∀ j,auR n k q row j e<q
 | 0=>hq
 | j+1=>by
  unfold auR
  split
  ·exact auW_lt (hr j)
  ·exact auR_lt hq hr e j
theorem auR_next {n k q:Nat} {row:Nat→Nat} {j:Nat}:auR n k q row (j+1) (auP n k j)=auW n k q row j:=by unfold auR;rw [if_pos rfl]
theorem auR_other {n k q:Nat} {row:Nat→Nat} {j e:Nat} (h:e≠auP n k j):auR n k q row (j+1) e=auR n k q row j e:=by
 conv=>lhs;unfold auR
 rw [if_neg h]
theorem auP_lo {n k j:Nat} (h:j*k % (2*n)<n):auP n k j=j*k % (2*n):=if_pos h
theorem auP_hi {n k j:Nat} (h:¬ j*k % (2*n)<n):auP n k j=j*k % (2*n) - n:=if_neg h
theorem auR_lo {n k q j v:Nat} {row:Nat→Nat} (h:j*k % (2*n)<n) (hv:v=row j):v=auR n k q row (j+1) (j*k % (2*n)):=by
 rw [← auP_lo h,auR_next]
 unfold auW auA
 rw [if_pos h];exact hv
theorem auR_hi {n k q j v:Nat} {row:Nat→Nat} (h:¬ j*k % (2*n)<n) (hv:v=(q - row j) % q):v=auR n k q row (j+1) (j*k % (2*n) - n):=by
 rw [← auP_hi h,auR_next]
 unfold auW auA
 rw [if_neg h];exact hv
theorem auR_map {n k q q':Nat} {row:Nat→Nat} {φ:Nat→Nat} (h0:φ 0=0) (hneg:∀ j,φ ((q - row j) % q)=(q' - φ (row j)) % q') (e:Nat):∀ j,auR n k q' (fun i=>φ (row i)) j e=φ (auR n k q row j e)
 | 0=>h0.symm
 | j+1=>by
  unfold auR
  split
  ·unfold auW
   split
   ·rfl
   ·exact (hneg j).symm
  ·exact auR_map h0 hneg e j
theorem balI_zero {q:Nat}:balI 0 q=0:=by unfold balI;rw [if_neg (by omega)];rfl
theorem balI_neg {a q:Nat} (ha:a<q) (hq:q % 2=1):balI ((q - a) % q) q = -balI a q:=by
 rcases Nat.eq_zero_or_pos a with h | h
 ·subst h
  rw [Nat.sub_zero,Nat.mod_self,balI_zero];rfl
 ·rw [Nat.mod_eq_of_lt (by omega)]
  unfold balI
  split<;>split<;>omega
theorem resI_zero {q:Nat}:resI 0 q=0:=by unfold resI;rw [Int.zero_emod];rfl
theorem resI_neg {x:Int} {q:Nat} (hq:0<q):resI (-x) q=(q - resI x q) % q:=by
 have h1:=resI_cast (x:=x) hq
 have h2:=resI_cast (x:= -x) hq
 have h3:=resI_lt (x:=x) hq
 apply Int.ofNat.inj
 show ((resI (-x) q:Nat):Int)=(((q - resI x q) % q:Nat):Int)
 rw [h2,Int.natCast_emod,Int.natCast_sub (by omega),h1]
 have e:(q:Int) - x % (q:Int) = -x+(q:Int)*(1+x / (q:Int)):=by
  have:=Int.emod_add_mul_ediv x (q:Int)
  rw [Int.mul_add]
  omega
 rw [e,Int.add_mul_emod_self_left]
def dgF (q q' x:Nat):Nat:=resI (balI x q) q'
theorem dgF_zero {q q':Nat}:dgF q q' 0=0:=by unfold dgF;rw [balI_zero,resI_zero]
theorem dgF_neg {q q' a:Nat} (ha:a<q) (hq:q % 2=1) (hq':0<q'):dgF q q' ((q - a) % q)=(q' - dgF q q' a) % q':=by
 unfold dgF
 rw [balI_neg ha hq,resI_neg hq']

abbrev rfD (s:ByteArray) (c:Nat):List D:=[.val (.string s),.val (.int .i64 (c:Int))]
theorem own_lt {w:World} {e:TypeId} {n:Nat} {v:Value} {xs:List Value} (h:w.ownsRow 0 e 1 v n xs) {x:Nat} (hx:v.ownBlock=some x):x<w.heap.size:=by
 rcases h.2 with ⟨rfl,_⟩ | ⟨g,cap,cur,rfl,_,hB,_⟩
 ·cases hx
 ·cases hx;exact (show Bk w g e cur from hB).lt
theorem rep_tup2 {Z:Zn} {w:World} {i:Nm} {a b:Value} {da db:D} (ha:Rep Z w i a da) (hb:Rep Z w i b db):Rep Z w i (.tuple #[a,b]) (.tup [da,db]):=
 .tup i [a,b] _ rfl fun j hj=>match j,hj with
  | 0,_=>ha
  | 1,_=>hb
theorem refUniform_den (s:ByteArray) (c q:Nat) (n:Int) (hs:s.size≤1048576) (hc:c≤8*s.size) (hq:q≤4294967295):DenH Tryz.prog 151 [.eptr 0 0 0 0,.val (.int .i64 n),.val (.int .u32 (q:Int))] [(0,.lit 117 (rfD s c))] (.tup [listD .u32 false (uniformR s c n q).1,.val (.int .i64 (uniformR s c n q).2.1)]) [(0,.lit 117 (rfD s (uniformR s c n q).2.2))] []:=
 den_state (us:=[.string s,.int .i64 c]) (us':=[.string s,.int .i64 ((uniformR s c n q).2.2:Nat)]) (es:=[.int .i64 n,.int .u32 q]) rfl rfl (fun b w hb=>(runiform b s c q n w hs hc hq hb).mono fun e w' ⟨v,h1,h2,h3,h4,h5⟩=>
  ⟨_,h1,h4,h5,fun x=>v.ownBlock=some x,fun x hx=>⟨h3 x hx,own_lt h2 hx⟩,fun Z i hZ=>rep_tup2 (rep_list h2 hZ) (.val _ _)⟩)
theorem refBounded_den (s:ByteArray) (c q:Nat) (n:Int) (hs:s.size≤1048576) (hc:c≤8*s.size) (hq:q≤4294967295):DenH Tryz.prog 86 [.eptr 0 0 0 0,.val (.int .i64 n),.val (.int .u32 (q:Int))] [(0,.lit 117 (rfD s c))] (.tup [listD .i64 false (boundedR s c n q).1,.val (.int .i64 (boundedR s c n q).2.1)]) [(0,.lit 117 (rfD s (boundedR s c n q).2.2))] []:=
 den_state (us:=[.string s,.int .i64 c]) (us':=[.string s,.int .i64 ((boundedR s c n q).2.2:Nat)]) (es:=[.int .i64 n,.int .u32 q]) rfl rfl (fun b w hb=>(rbounded b s c q n w hs hc hq hb).mono fun e w' ⟨v,h1,h2,h3,h4,h5⟩=>
  ⟨_,h1,h4,h5,fun x=>v.ownBlock=some x,fun x hx=>⟨h3 x hx,own_lt h2 hx⟩,fun Z i hZ=>rep_tup2 (rep_list h2 hZ) (.val _ _)⟩)
theorem refNew_den (s:ByteArray) (hs:s.size≤1048576):DenH Tryz.prog 28 [.val (.string s)] [] (.eptr 1008 0 0 0) [] [(1008,.lit 117 (rfD s 0))]:=by
 refine den_intro (fn:=Tryz.f28) rfl rfl rfl rfl rfl ?_
 refine go ?_
 exact finN
end Go.Proofs.YtmjildbdkecolaaGreat
