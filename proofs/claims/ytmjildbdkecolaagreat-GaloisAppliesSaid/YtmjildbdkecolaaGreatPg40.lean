/- Automorphisms of the reference's ring, by data.
Secrets: weights, powers, automorphisms. Plain.
Secrets: the reference's checks, powers and automorphisms, by data.
The numbers that are drawn for a switching key; the reference's elements of them, by data.
The sum of the products of a key's parts and digits: the program, by data.
What a key makes of digits: the program, by data.
What a key makes of digits and of an element: the reference, by data.
Switching keys: the reference's source, by data; what a key is made of.
The program's ring, by data: automorphisms.
Digits under an automorphism: the same in any order; a mask by a power of two. Plain. -/
import Derived.Test.YtmjildbdkecolaaGreatPg39
import Derived.Test.YtmjildbdkecolaaGreatPg37
import Derived.Test.YtmjildbdkecolaaGreatPg19
set_option linter.unusedSimpArgs false
set_option linter.unusedVariables false
set_option linter.unnecessarySimpa false
set_option linter.unusedSectionVars false
namespace Go.Proofs.YtmjildbdkecolaaGreat
open Go.RowKit
instance fi67:FI Tryz.prog 67 Tryz.f67:=⟨Tryz.func67,Tryz.call67⟩
set_option maxRecDepth 20000
set_option maxHeartbeats 4000000
def autV (p:PD) (lv n k:Nat) (g:Nat→Nat→Nat) (r:Nat):Nat→Nat:=auR n k (modQ p lv r) (g r) n
theorem vg_aut {p:PD} {n lv:Nat} (h:Lv p n lv) (k:Nat) {g:Nat→Nat→Nat} (hg:Vg p lv g):Vg p lv (autV p lv n k g):=fun r j=>auR_lt (h.q0 r) (hg r) j n
theorem r09Auto_den (p:PD) (n lv:Nat) (sp:Bool) (h:Lv p n lv) (k:Nat) (hk1:1≤k) (hk2:k<2*n) (hk3:k % 2=1) (g:Nat→Nat→Nat) (hg:Vg p lv g) :
  Den Tryz.prog 67 [.agg (parL true p),.agg (elL true lv sp (modN p lv sp) n g),.val (.int .i64 (k:Int))] (.tup [.agg (elL false lv sp (modN p lv sp) n (autV p lv n k g)),.val (.int .i64 0)]):=by
 refine den_intro (fn:=Tryz.f67) rfl rfl rfl rfl rfl ?_
 have hN:NatIs p.n n:=h.n
 have h32:=h.n32
 have h4:=h.n4
 have l2:=h.l2
 have l24:=h.vp.len2
 have hm:=modQ_in h.vp h.sp h.l2
 have hM:modN p lv sp≤1001:=by unfold modN;split<;>omega
 have hck:=r09Check_den0 p h.vp h.sp (lv:Int) sp (modN p lv sp) (fun _=>n) g (fun _=>by omega) (by omega)
 rw [elOk_valid (sp:=sp) h hg] at hck
 have hmod:=r09Moduli_den p lv sp h.l2 (by omega)
 have hV:∀ r,auR n k (modQ p lv r) (g r) n=autV p lv n k g r:=fun _=>rfl
 obtain ⟨V,hVV⟩:∃ V,autV p lv n k g=V:=⟨_,rfl⟩
 rw [hVV] at hV ⊢
 obtain ⟨M,hMM⟩:∃ M,M=modN p lv sp:=⟨_,rfl⟩
 rw [← hMM] at hM hmod hck ⊢
 refine go ?_
 refine r_call hck ?_
 refine go ?_
 refine c_ifB (fun q=>?_) (fun q=>?_)
 ·exfalso
  simp at q
  omega
 clear q
 refine go ?_
 refine r_call hmod ?_
 refine go ?_
 refine c_nilcellM 1008 2 1900 23 22 1 n (fun k j=>[.val (.int .u32 ((V k j:Nat):Int))]) ?_
 refine c_up M (fun i=>[(10,.val (.int .i64 (i:Nat)))]) (fun i=>[(1008,some (.lit 35 [.val (.int .i64 (lv:Int)),.val (.bool sp),.sl 1900 1 i])),(1900,some (.mat 23 22 i i 1 n (fun k j=>[.val (.int .u32 ((V k j:Nat):Int))])))]) (fun i hi=>?_)
 refine go ?_
 have hq:=hm i
 refine c_if (fun h3=>?_) (fun h3=>?_)
 ·refine go ?_
  refine c_arr (1000+55) (fun e=>[.val (.int .u32 ((auR n k (modQ p lv i) (g i) 0 e:Nat):Int))]) (fun e he=>rfl) (fun _=>rfl) ?_
  refine c_up n (fun j=>[(12,.val (.int .i64 (j:Nat)))]) (fun j=>[(1055,some (rowB n (auR n k (modQ p lv i) (g i) j)))]) (fun j hj=>?_)
  have hgj:=hg i j
  have hjk:j*k≤32*64:=Nat.mul_le_mul (by omega) (by omega)
  have hat:j*k % (2*n)<2*n:=Nat.mod_lt _ (by omega)
  refine go ?_
  refine c_if (fun h5=>?_) (fun h5=>?_)
  ·refine go ?_
   refine c_if (fun h6=>?_) (fun h6=>?_)
   ·refine go ?_
    refine ⟨h5,?_⟩
    refine row_put 1055 (auR n k (modQ p lv i) (g i) (j+1)) (auR_lo h6 rfl) (fun e _ he=>auR_other (by rw [auP_lo h6];exact he)) ?_
    exact sub
   ·refine go ?_
    refine ⟨h5,?_⟩
    refine row_put 1055 (auR n k (modQ p lv i) (g i) (j+1)) (auR_hi h6 rfl) (fun e _ he=>auR_other (by rw [auP_hi h6];exact he)) ?_
    exact sub
  ·obtain rfl:j=n:=by omega
   refine go ?_
   refine ⟨h3,?_⟩
   refine sub_mat (1000+112) (fun k j=>[.val (.int .u32 ((V k j:Nat):Int))]) (putG_snoc (fun x _=>by show [D.val (.int .u32 ((auR j k (modQ p lv i) (g i) j x:Nat):Int))]=[D.val (.int .u32 ((V i x:Nat):Int))];rw [hV])) (fun _ _=>rfl) ?_
   refine sub_toL [109] (1000+112) 1900 ?_
   exact sub
 ·obtain rfl:i=M:=by omega
  refine go ?_
  refine fin_freezeM 1900 ?_
  refine fin ?_
  exact cv

def wt (x:Nat→Int):Nat→Nat
 | 0=>0
 | k+1=>if x k=0 then wt x k else wt x k+1
theorem wt_le (x:Nat→Int):∀ k,wt x k≤k
 | 0=>Nat.le_refl _
 | k+1=>by unfold wt;have:=wt_le x k;split<;>omega
def triB (x:Nat→Int) (k:Nat):Bool:=decide (-1≤x k) && decide (x k≤1)
def zk (a x:Nat→Int) (n i t:Nat):Nat→Int
 | 0=>0
 | k+1=>zk a x n i t k+(if i+k=t then a i*x k else if i+k=t+n then -(a i*x k) else 0)
def zi (a x:Nat→Int) (n t:Nat):Nat→Int
 | 0=>0
 | i+1=>zi a x n t i+zk a x n i t n
def zS (a x:Nat→Int) (n i k t:Nat):Int:=zi a x n t i+zk a x n i t k
theorem zS_next (a x:Nat→Int) (n i t:Nat):zS a x n i n t=zS a x n (i+1) 0 t:=by unfold zS;simp only [zi,zk];omega
theorem zS_lo {a x:Nat→Int} {n i k:Nat} (h:i+k<n):zS a x n i (k+1) (i+k)=zS a x n i k (i+k)+a i*x k:=by
 unfold zS;simp only [zk];rw [if_pos trivial];omega
theorem zS_hi {a x:Nat→Int} {n i k:Nat} (h:¬ i+k<n) (h2:0<n):zS a x n i (k+1) (i+k - n)=zS a x n i k (i+k - n) - a i*x k:=by
 unfold zS;simp only [zk];rw [if_neg (by omega),if_pos (by omega)];omega
theorem zS_other {a x:Nat→Int} {n i k t:Nat} (ht:t<n) (h1:i+k≠t) (h2:i+k≠t+n):zS a x n i (k+1) t=zS a x n i k t:=by
 unfold zS;simp only [zk];rw [if_neg h1,if_neg h2];omega
theorem mul_tri {a b:Int} {M:Nat} (ha : -(M:Int)≤a∧a≤M) (hb : -1≤b∧b≤1) : -(M:Int)≤a*b∧a*b≤M:=by
 obtain rfl | rfl | rfl:b = -1∨b=0∨b=1:=by omega
 ·omega
 ·omega
 ·omega
theorem zk_in {a x:Nat→Int} {n M:Nat} (ha:∀ j, -(M:Int)≤a j∧a j≤M) (hx:∀ j, -1≤x j∧x j≤1) (i t:Nat):∀ k, -((k*M:Nat):Int)≤zk a x n i t k∧zk a x n i t k≤((k*M:Nat):Int)
 | 0=>by simp [zk]
 | k+1=>by
  have h1:=zk_in (n:=n) ha hx i t k
  have h2:=mul_tri (ha i) (hx k)
  have h3:(k+1)*M=k*M+M:=Nat.succ_mul k M
  rw [h3]
  simp only [zk]
  split
  ·omega
  ·split<;>omega
theorem zi_in {a x:Nat→Int} {n M:Nat} (ha:∀ j, -(M:Int)≤a j∧a j≤M) (hx:∀ j, -1≤x j∧x j≤1) (t:Nat):∀ i, -((i*(n*M):Nat):Int)≤zi a x n t i∧zi a x n t i≤((i*(n*M):Nat):Int)
 | 0=>by simp [zi]
 | i+1=>by
  have h1:=zi_in (n:=n) ha hx t i
  have h2:=zk_in (n:=n) ha hx i t n
  have h3:(i+1)*(n*M)=i*(n*M)+n*M:=Nat.succ_mul i _
  rw [h3]
  simp only [zi]
  omega
theorem zS_in {a x:Nat→Int} {n M:Nat} (ha:∀ j, -(M:Int)≤a j∧a j≤M) (hx:∀ j, -1≤x j∧x j≤1) (hn:n≤32) (hM:M≤2000) {i k:Nat} (hi:i≤32) (hk:k≤32) (t:Nat) : -4000000≤zS a x n i k t∧zS a x n i k t≤4000000:=by
 have h1:=zi_in (n:=n) ha hx t i
 have h2:=zk_in (n:=n) ha hx i t k
 have h3:n*M≤32*2000:=Nat.mul_le_mul hn hM
 have h4:i*(n*M)≤32*(32*2000):=Nat.mul_le_mul hi h3
 have h5:k*M≤32*2000:=Nat.mul_le_mul hk hM
 unfold zS
 omega
def pw (x:Nat→Int) (n:Nat):Nat→Nat→Int
 | 0,t=>if t=0 then 1 else 0
 | m+1,t=>if t<n then zi (pw x n m) x n t n else 0
theorem pw0_in {x:Nat→Int} {n:Nat} (j:Nat) : -((1:Nat):Int)≤pw x n 0 j∧pw x n 0 j≤((1:Nat):Int):=by
 unfold pw
 split<;>omega
theorem pw1_in {x:Nat→Int} {n:Nat} (hn:n≤32) (hx:∀ j, -1≤x j∧x j≤1) (j:Nat) : -((1024:Nat):Int)≤pw x n 1 j∧pw x n 1 j≤((1024:Nat):Int):=by
 unfold pw
 split
 ·have:=zi_in (n:=n) (pw0_in (x:=x) (n:=n)) hx j n
  have h:n*(n*1)≤32*(32*1):=Nat.mul_le_mul hn (by omega)
  omega
 ·omega
def tR (n k:Nat) (x:Nat→Int):Nat→Nat→Int
 | 0=>fun _=>0
 | j+1=>fun e=>if e=auP n k j then (if auA n k j<n then x j else -x j) else tR n k x j e
theorem tR_in {n k:Nat} {x:Nat→Int} (hx:∀ j, -1≤x j∧x j≤1) (e:Nat):∀ j, -1≤tR n k x j e∧tR n k x j e≤1
 | 0=>by simp [tR]
 | j+1=>by
  have h1:=tR_in (n:=n) (k:=k) hx e j
  have h2:=hx j
  simp only [tR]
  split
  ·split<;>omega
  ·exact h1
theorem tR_lo {n k j:Nat} {x:Nat→Int} {v:Int} (h:j*k % (2*n)<n) (hv:v=x j):v=tR n k x (j+1) (j*k % (2*n)):=by
 rw [← auP_lo h]
 simp only [tR]
 rw [if_pos trivial,if_pos (show auA n k j<n from h)];exact hv
theorem tR_hi {n k j:Nat} {x:Nat→Int} {v:Int} (h:¬ j*k % (2*n)<n) (hv:v = -x j):v=tR n k x (j+1) (j*k % (2*n) - n):=by
 rw [← auP_hi h]
 simp only [tR]
 rw [if_pos trivial,if_neg (show ¬ auA n k j<n from h)];exact hv
theorem tR_other {n k j e:Nat} {x:Nat→Int} (h:e≠auP n k j):tR n k x (j+1) e=tR n k x j e:=by
 simp only [tR]
 rw [if_neg h]

instance ti49:TI Tryz.prog 49 Tryz.t49 (.slice 179):=⟨by kernel_rfl,by kernel_rfl⟩
instance ti51:TI Tryz.prog 51 Tryz.t51 Tryz.t50.desc:=⟨by kernel_rfl,by kernel_rfl⟩
instance ti179:TI Tryz.prog 179 Tryz.t179 (.int .i8):=⟨by kernel_rfl,by kernel_rfl⟩
instance sz49:SZ Tryz.prog 49 1:=SZ.of ti49 rfl
instance et49:ET Tryz.prog 49 1:=ET.of ti49 ti179 rfl
instance sz51:SZ Tryz.prog 51 1:=SZ.of ti51 rfl
instance zr51:ZR Tryz.prog 51 [.slice none 0 0]:=ZR.of ti51 rfl rfl rfl
instance bt51:BT Tryz.prog 51 [(0,1)] [.slice none 0 0]:=BT.of (ns:=[1]) ti51 rfl zr51.zr ⟨sz49.sz,trivial⟩ (by intro j;repeat (first | rfl | cases j with | zero=>rfl | succ j=>?_))
instance ft51_0:FT Tryz.prog 51 0 0:=FT.of ti51 rfl ti49 rfl rfl
instance sz179:SZ Tryz.prog 179 1:=SZ.of ti179 rfl
instance fi82:FI Tryz.prog 82 Tryz.f82:=⟨Tryz.func82,Tryz.call82⟩
instance fi149:FI Tryz.prog 149 Tryz.f149:=⟨Tryz.func149,Tryz.call149⟩
instance fi150:FI Tryz.prog 150 Tryz.f150:=⟨Tryz.func150,Tryz.call150⟩
instance fi89:FI Tryz.prog 89 Tryz.f89:=⟨Tryz.func89,Tryz.call89⟩
abbrev scL (o:Bool) (n:Nat) (x:Nat→Int):List D:=[.fz o n 1 (fun j=>[.val (.int .i8 (x j))])]
noncomputable def scB (p:PD) (n:Nat) (x:Nat→Int):Bool:=goodB p && decide ((n:Int)=p.n) && evry (triB x) n && decide ((wt x n:Int)=p.weight)
theorem r13CheckSecret_den (p:PD) (hp:PFit p) (n:Nat) (x:Nat→Int) (hn:n≤1000000) (hx:∀ j, -128≤x j∧x j≤127):Den Tryz.prog 82 [.agg (parL true p),.agg (scL true n x)] (.val (.int .i64 (errI (scB p n x)))):=by
 refine den_intro (fn:=Tryz.f82) rfl rfl rfl rfl rfl ?_
 refine go ?_
 refine r_call (r12check_den p hp) ?_
 refine go ?_
 refine c_ifB (fun h1=>?_) (fun h1=>?_)
 ·refine go ?_
  refine fin ?_
  rw [show scB p n x=false by
   unfold scB
   cases q:goodB p with
   | false=>rfl
   | true=>
    rw [q] at h1
    by_cases q2:(n:Int)=p.n
    ·simp [errI,q2] at h1
    ·rw [decide_eq_false q2];rfl]
  exact cv
 have hgd:goodB p=true∧(n:Int)=p.n:=by
  cases q:goodB p with
  | false=>rw [q] at h1;simp [errI] at h1
  | true=>rw [q] at h1;simp [errI] at h1;exact ⟨rfl,h1⟩
 refine go ?_
 refine c_down (fun j=>n - j) (fun j=>j≤n∧∀ k,k<j→triB x k=true) (fun j:Nat=>[(6,.val (.int .i64 (j:Int))),(5,.val (.int .i64 ((wt x j:Nat):Int)))]) (fun _=>[]) 0 (fun j ⟨hj,hF⟩=>?_) ⟨by omega,fun e he=>by omega⟩
 refine go ?_
 have hxj:=hx j
 have hw:=wt_le x j
 refine c_if (fun h3=>?_) (fun h3=>?_)
 ·refine go ?_
  refine c_ifB (fun h4=>?_) (fun h4=>?_)
  ·refine go ?_
   refine fin ?_
   rw [show scB p n x=false by
    unfold scB
    rw [evry_no (f:=triB x) h3 (by unfold triB;simp at h4 ⊢;omega)]
    simp]
   exact cv
  ·have ht:triB x j=true:=by unfold triB;simp at h4 ⊢;omega
   have hF':∀ k,k<j+1→triB x k=true:=fun i hi=>by
    by_cases q:i<j
    ·exact hF i q
    ·obtain rfl:i=j:=by omega
     exact ht
   refine go ?_
   refine c_if (fun h5=>?_) (fun h5=>?_)
   ·have e:wt x (j+1)=wt x j+1:=if_neg h5
    refine go ?_
    refine ⟨j+1,⟨by omega,hF'⟩,by omega,?_⟩
    rw [e]
    exact sub
   ·have e:wt x (j+1)=wt x j:=if_pos (by omega)
    refine go ?_
    refine ⟨j+1,⟨by omega,hF'⟩,by omega,?_⟩
    rw [e]
    exact sub
 ·obtain rfl:j=n:=by omega
  refine go ?_
  refine c_if (fun h5=>?_) (fun h5=>?_)
  ·refine go ?_
   refine fin ?_
   rw [show scB p j x=false by unfold scB;rw [decide_eq_false h5];simp]
   exact cv
  ·refine go ?_
   refine fin ?_
   rw [show scB p j x=true by unfold scB;rw [hgd.1,decide_eq_true hgd.2,evry_iff.2 hF,decide_eq_true (by omega)];rfl]
   exact cv
theorem r13Ints_den (n:Nat) (x:Nat→Int) (hn:n≤1000000) (hx:∀ j, -128≤x j∧x j≤127):Den Tryz.prog 89 [.agg (scL true n x)] (intsD false n x):=by
 refine den_intro (fn:=Tryz.f89) rfl rfl rfl rfl rfl ?_
 refine go ?_
 refine c_nil 3 1900 2 1 (fun j=>[.val (.int .i64 (x j))]) ?_
 refine c_up n (fun j=>[(3,.sl 1900 1 j),(4,.val (.int .i64 (j:Nat)))]) (fun j=>[(1900,some (.arr 2 j 1 (fun j=>[.val (.int .i64 (x j))])))]) (fun j hj=>?_)
 refine go ?_
 have hxj:=hx j
 refine c_if (fun h3=>?_) (fun h3=>?_)
 ·refine go ?_
  refine ⟨h3,?_⟩
  refine sub_arr (1000+20) (fun j=>[.val (.int .i64 (x j))]) (appF_snoc rfl) (fun _=>rfl) ?_
  refine sub_toL [12] (1000+20) 1900 ?_
  exact sub
 obtain rfl:j=n:=by omega
 refine go ?_
 refine fin_freeze 1900 ?_
 refine fin ?_
 exact cv
theorem sc_all {p:PD} {n:Nat} {x:Nat→Int} (h:scB p n x=true):Good p.par∧p.n=(n:Int)∧∀ j,j<n → -1≤x j∧x j≤1:=by
 unfold scB at h
 simp only [Bool.and_eq_true,decide_eq_true_eq,evry_iff] at h
 refine ⟨goodB_iff.1 h.1.1.1,h.1.1.2.symm,fun j hj=>?_⟩
 have:=h.1.2 j hj
 unfold triB at this
 simpa using this
theorem setE_putI {kd:IntKind} {h h':Nat→Int} {j n:Nat} {v:Int} (hv:v=h' j) (ho:∀ e,e<n→e≠j→h' e=h e) (e:Nat) (he:e<n):setE (fun e=>[.val (.int kd (h e))]) j 0 [.val (.int kd v)] e=[.val (.int kd (h' e))]:=by
 subst hv
 unfold setE
 by_cases q:e=j
 ·subst q;simp [setL,takeL,dropL]
 ·simp [q,ho e he q]
abbrev rowI (t:TypeId) (kd:IntKind) (n:Nat) (h:Nat→Int):Box:=.arr t n 1 (fun e=>[.val (.int kd (h e))])
section
variable {E2:Nat→D} {H2:Nat→Option Box} {env:List (Nat × D)} {box:List (Nat × Option Box)} {t:TypeId} {kd:IntKind}
theorem row_putI (k:Nat) {n j:Nat} {v:Int} {h:Nat→Int} (h':Nat→Int) (hv:v=h' j) (ho:∀ e,e<n→e≠j→h' e=h e) (g:Sub (lk env) (hk ((k,some (rowI t kd n h'))::box)) E2 H2) (hb:autoParam (Bl box k (.arr t n 1 (setE (fun e=>[.val (.int kd (h e))]) j 0 [.val (.int kd v)]))) aq9._auto_1):Sub (lk env) (hk box) E2 H2:=sub_arr k _ (fun e he=>setE_putI hv ho e he) (fun _=>rfl) g hb
end
theorem r13Turned_den (p:PD) (hp:PFit p) (n:Nat) (x:Nat→Int) (hg:Good p.par) (hN:p.n=(n:Int)) (h:scB p n x=true) (hx:∀ j, -1≤x j∧x j≤1) (k:Nat) (hk1:1≤k) (hk2:k<2*n) (hk3:k % 2=1):Den Tryz.prog 150 [.agg (parL true p),.agg (scL true n x),.val (.int .i64 (k:Int))] (.tup [.agg (scL false n (tR n k x n)),.val (.int .i64 0)]):=by
 refine den_intro (fn:=Tryz.f150) rfl rfl rfl rfl rfl ?_
 obtain ⟨n',hn',n4,n32⟩:=good_n hg
 obtain rfl:n'=n:=by omega
 have hNN:NatIs p.n n':=hN
 have hck:=r13CheckSecret_den p hp n' x (by omega) (fun j=>by have:=hx j;omega)
 rw [h] at hck
 have hau:=r13Auto_den p (k:Int) hg
 rw [show (decide (1≤(k:Int)) && decide ((k:Int)<2*p.n) && decide ((k:Int).tmod 2=1))=true by
  rw [decide_eq_true (by omega),decide_eq_true (by omega),decide_eq_true (by rw [Int.tmod_eq_emod_of_nonneg (by omega)];omega)];rfl] at hau
 refine go ?_
 refine r_call hck ?_
 refine go ?_
 refine g_callM (hl:=fun hb=>r_call hau (run_fin rfl)) (h:=?_)
 refine go ?_
 refine c_ifB (fun q=>?_) (fun q=>?_)
 ·exfalso
  simp [errI] at q
 clear q
 refine go ?_
 refine c_arr (1000+24) (fun e=>[.val (.int .i8 (tR n' k x 0 e))]) (fun e he=>rfl) (fun _=>rfl) ?_
 refine c_up n' (fun j=>[(9,.val (.int .i64 (j:Nat)))]) (fun j=>[(1024,some (rowI 179 .i8 n' (tR n' k x j)))]) (fun j hj=>?_)
 refine go ?_
 have hxj:=hx j
 have hjk:j*k≤32*64:=Nat.mul_le_mul (by omega) (by omega)
 have hat:j*k % (2*n')<2*n':=Nat.mod_lt _ (by omega)
 refine c_if (fun h3=>?_) (fun h3=>?_)
 ·refine go ?_
  refine c_if (fun h6=>?_) (fun h6=>?_)
  ·refine go ?_
   refine ⟨h3,?_⟩
   refine row_putI 1024 (tR n' k x (j+1)) (tR_lo h6 rfl) (fun e _ he=>tR_other (by rw [auP_lo h6];exact he)) ?_
   exact sub
  ·refine go ?_
   refine ⟨h3,?_⟩
   refine row_putI 1024 (tR n' k x (j+1)) (tR_hi h6 rfl) (fun e _ he=>tR_other (by rw [auP_hi h6];exact he)) ?_
   exact sub
 ·obtain rfl:j=n':=by omega
  refine go ?_
  refine fin_freeze 1024 ?_
  refine fin ?_
  exact cv
theorem r13Power2_den (p:PD) (hp:PFit p) (n:Nat) (x:Nat→Int) (hg:Good p.par) (hN:p.n=(n:Int)) (h:scB p n x=true) (hx:∀ j, -1≤x j∧x j≤1):Den Tryz.prog 149 [.agg (parL true p),.agg (scL true n x),.val (.int .i64 2)] (.tup [intsD false n (pw x n 2),.val (.int .i64 0)]):=by
 refine den_intro (fn:=Tryz.f149) rfl rfl rfl rfl rfl ?_
 obtain ⟨n',hn',n4,n32⟩:=good_n hg
 obtain rfl:n'=n:=by omega
 have hNN:NatIs p.n n':=hN
 have hck:=r13CheckSecret_den p hp n' x (by omega) (fun j=>by have:=hx j;omega)
 rw [h] at hck
 refine go ?_
 refine r_call hck ?_
 refine go ?_
 refine c_ifB (fun q=>?_) (fun q=>?_)
 ·exfalso
  simp [errI] at q
 clear q
 refine go ?_
 refine awp_sub (sub_toL [27,28,29] (1000+27) 1900 (Sub.refl _ _)) ?_
 refine c_arr 1900 (fun e=>[.val (.int .i64 (pw x n' 0 e))]) (fun e he=>?_) (fun _=>rfl) ?_
 ·unfold setE
  by_cases q:e=0
  ·subst q;rfl
  ·rw [if_neg (show ¬ e=Int.toNat 0 from q)]
   show [D.val (Value.int .i64 0)]=[D.val (Value.int .i64 (pw x n' 0 e))]
   rw [show pw x n' 0 e=0 from if_neg q]
 refine c_down (fun m=>2 - m) (fun m=>m≤2) (fun m:Nat=>[(2,.val (.int .i64 (2 - (m:Int)))),(8,.sl 1900 1 n')]) (fun m=>[(1900,some (rowI 2 .i64 n' (pw x n' m)))]) 0 (fun m hm=>?_) (by omega)
 refine go ?_
 refine c_if (fun h3=>?_) (fun h3=>?_)
 ·have ha:∀ j, -((1024:Nat):Int)≤pw x n' m j∧pw x n' m j≤((1024:Nat):Int):=fun j=>by
   obtain rfl | rfl:m=0∨m=1:=by omega
   ·have:=pw0_in (x:=x) (n:=n') j;omega
   ·exact pw1_in n32 hx j
  have hM:∀ t,t<n'→zS (pw x n' m) x n' n' 0 t=pw x n' (m+1) t:=fun t ht=>by
   unfold zS pw
   rw [if_pos ht]
   simp [zk]
  generalize hpa:pw x n' m=a at ha hM ⊢
  clear hpa
  refine go ?_
  refine c_arr (1000+36) (fun e=>[.val (.int .i64 (zS a x n' 0 0 e))]) (fun e he=>rfl) (fun _=>rfl) ?_
  refine c_up n' (fun i=>[(10,.val (.int .i64 (i:Nat)))]) (fun i=>[(1036,some (rowI 2 .i64 n' (zS a x n' i 0)))]) (fun i hi=>?_)
  refine go ?_
  refine c_if (fun h4=>?_) (fun h4=>?_)
  ·refine go ?_
   refine c_up n' (fun k=>[(11,.val (.int .i64 (k:Nat)))]) (fun k=>[(1036,some (rowI 2 .i64 n' (zS a x n' i k)))]) (fun k hk=>?_)
   refine go ?_
   have hxk:=hx k
   have hpr:=mul_tri (ha i) (hx k)
   have hz1:=zS_in ha hx n32 (by omega) (show i≤32 by omega) (show k≤32 by omega) (i+k)
   have hz2:=zS_in ha hx n32 (by omega) (show i≤32 by omega) (show k≤32 by omega) (i+k - n')
   refine c_if (fun h5=>?_) (fun h5=>?_)
   ·refine go ?_
    refine c_if (fun h6=>?_) (fun h6=>?_)
    ·refine go ?_
     refine ⟨h5,?_⟩
     refine row_putI 1036 (zS a x n' i (k+1)) (zS_lo h6).symm (fun e he hne=>zS_other he (fun q=>hne q.symm) (by omega)) ?_
     exact sub
    ·refine go ?_
     refine ⟨h5,?_⟩
     refine row_putI 1036 (zS a x n' i (k+1)) (zS_hi h6 (by omega)).symm (fun e he hne=>zS_other he (by omega) (by omega)) ?_
     exact sub
   ·obtain rfl:k=n':=by omega
    refine go ?_
    refine ⟨h4,?_⟩
    refine sub_arr 1036 (n:=k) (f:=fun e=>[.val (.int .i64 (zS a x k i k e))]) (fun e=>[.val (.int .i64 (zS a x k (i+1) 0 e))]) (fun e he=>by rw [zS_next]) (fun _=>rfl) ?_
    exact sub
  ·obtain rfl:i=n':=by omega
   refine go ?_
   refine ⟨m+1,by omega,by omega,?_⟩
   refine sub_arr 1036 (n:=i) (f:=fun e=>[.val (.int .i64 (zS a x i i 0 e))]) (fun e=>[.val (.int .i64 (pw x i (m+1) e))]) (fun e he=>by rw [hM e he]) (fun _=>rfl) ?_
   refine sub_toL [9,36,98] 1036 1900 ?_
   exact sub
 ·obtain rfl:m=2:=by omega
  refine go ?_
  refine fin_freeze 1900 ?_
  refine fin ?_
  exact cv

instance fi85:FI Tryz.prog 85 Tryz.f85:=⟨Tryz.func85,Tryz.call85⟩
instance (a b:Value):NoName [.val a,.val b]:=⟨rfl⟩
instance (a b c:Value):NoName [.val a,.val b,.val c]:=⟨rfl⟩
def dw (p:PD) (L0 k:Nat):Nat:=if k % (L0+2)<L0+1 then modQ p L0 (k % (L0+2)) else 2*p.err+1
def dS (s:ByteArray) (p:PD) (n L0:Nat):Nat→Nat
 | 0=>0
 | k+1=>match tkL s (dw p L0 k) n (dS s p n L0 k) with
  | some (_,d)=>d
  | none=>dS s p n L0 k
def dV (s:ByteArray) (p:PD) (n L0 k j:Nat):Nat:=match tkL s (dw p L0 k) n (dS s p n L0 k) with
 | some (l,_)=>l.getD j 0
 | none=>0
def dBad (s:ByteArray) (p:PD) (n L0 k:Nat):Bool:=(tkL s (dw p L0 k) n (dS s p n L0 k)).isNone
section
variable {s:ByteArray} {p:PD} {n L0:Nat}
theorem dS_le:∀ k,dS s p n L0 k≤8*s.size
 | 0=>Nat.zero_le _
 | k+1=>by
  unfold dS
  split
  ·exact (tkL_spec (dS_le k) ‹_›).2.2.2
  ·exact dS_le k
theorem d_no {k:Nat} (h:dBad s p n L0 k=true):tkL s (dw p L0 k) n (dS s p n L0 k)=none:=by
 unfold dBad at h
 cases q:tkL s (dw p L0 k) n (dS s p n L0 k) with
 | none=>rfl
 | some x=>rw [q] at h;cases h
theorem d_ok {k:Nat} (h:dBad s p n L0 k=false):∃ l:List Nat,tkL s (dw p L0 k) n (dS s p n L0 k)=some (l,dS s p n L0 (k+1))∧l.length=n∧∀ j,dV s p n L0 k j=l.getD j 0:=by
 unfold dBad at h
 cases q:tkL s (dw p L0 k) n (dS s p n L0 k) with
 | none=>rw [q] at h;cases h
 | some x=>
  obtain ⟨l,d⟩:=x
  refine ⟨l,?_,(tkL_spec (dS_le k) q).1,fun j=>by unfold dV;rw [q]⟩
  rw [show dS s p n L0 (k+1)=d by show (match tkL s (dw p L0 k) n (dS s p n L0 k) with | some (_,d)=>d | none=>dS s p n L0 k)=d;rw [q]]
theorem dV_lt {k:Nat} (h0:0<dw p L0 k) (j:Nat):dV s p n L0 k j<dw p L0 k:=by
 unfold dV
 split
 ·rename_i l d q
  have:=(tkL_spec (dS_le k) q).2.1
  rw [List.getD_eq_getElem?_getD]
  by_cases h:j<l.length
  ·rw [List.getElem?_eq_getElem h];exact this _ (List.getElem_mem h)
  ·rw [List.getElem?_eq_none (by omega)];exact h0
 ·exact h0
end
theorem getD_cast (l:List Nat) (j:Nat) (f:Nat→Int) (h0:f 0=0):(l.map f).getD j 0=f (l.getD j 0):=by
 rw [List.getD_eq_getElem?_getD,List.getD_eq_getElem?_getD,List.getElem?_map]
 cases l[j]?<;>simp [h0]
theorem list_row {o:Bool} {l:List Nat} {n:Nat} (h:l.length=n):Cvt (listD .u32 o (l.map (fun v:Nat=>(v:Int)))) (u32sF o n (fun j=>l.getD j 0)):=by
 subst h
 refine .of_eq ?_
 show D.fz o (l.map (fun v:Nat=>(v:Int))).length 1 _=D.fz o l.length 1 _
 rw [List.length_map]
 congr 1
 funext k
 rw [getD_cast l k (fun v:Nat=>(v:Int)) rfl]
theorem refUniform_ok (s:ByteArray) (c d q n:Nat) (l:List Nat) (hs:s.size≤1048576) (hc:c≤8*s.size) (hq0:1≤q) (hq:q≤4294967295) (hn:n≤4096) (hk:tkL s q n c=some (l,d)) (V:Nat→Nat) (hV:∀ j,V j=l.getD j 0) (hl:l.length=n):DenH Tryz.prog 151 [.eptr 0 0 0 0,.val (.int .i64 (n:Int)),.val (.int .u32 (q:Int))] [(0,.lit 117 (rfD s c))] (.tup [u32sF false n V,.val (.int .i64 0)]) [(0,.lit 117 (rfD s d))] []:=by
 have h:=refUniform_den s c q (n:Int) hs hc hq
 have e:uniformR s c (n:Int) q=(l.map (fun v:Nat=>(v:Int)),0,d):=by
  unfold uniformR
  rw [if_neg (by omega),Int.toNat_natCast,hk]
 rw [e] at h
 rw [show V=fun j=>l.getD j 0 from funext hV]
 exact h.res (Cvt.tup (.cons (list_row hl) (.cons (.of_eq rfl) .nil)))
theorem refUniform_no (s:ByteArray) (c q n:Nat) (hs:s.size≤1048576) (hc:c≤8*s.size) (hq0:1≤q) (hq:q≤4294967295) (hn:n≤4096) (hk:tkL s q n c=none):DenH Tryz.prog 151 [.eptr 0 0 0 0,.val (.int .i64 (n:Int)),.val (.int .u32 (q:Int))] [(0,.lit 117 (rfD s c))] (.tup [listD .u32 false [],.val (.int .i64 4)]) [(0,.lit 117 (rfD s c))] []:=by
 have h:=refUniform_den s c q (n:Int) hs hc hq
 have e:uniformR s c (n:Int) q=([],4,c):=by
  unfold uniformR
  rw [if_neg (by omega),Int.toNat_natCast,hk]
 rw [e] at h
 exact h
section
variable (s:ByteArray) (hs:s.size≤1048576) (p:PD) (n L0:Nat) (hL:Lv p n L0) (ht:L0=p.chain.length) (k0:Nat) (hk0:k0 % (L0+2)=0)
include hk0
theorem dw_row {i:Nat} (hi:i<L0+1):dw p L0 (k0+i)=modQ p L0 i:=by
 unfold dw
 rw [Nat.add_mod,hk0,Nat.zero_add,Nat.mod_mod,Nat.mod_eq_of_lt (by omega),if_pos hi]
theorem dw_err:dw p L0 (k0+(L0+1))=2*p.err+1:=by
 unfold dw
 rw [Nat.add_mod,hk0,Nat.zero_add,Nat.mod_mod,Nat.mod_eq_of_lt (by omega),if_neg (by omega)]
include hs hL ht
theorem r13Uniform_ok (hok:∀ i,i<L0+1→dBad s p n L0 (k0+i)=false):DenH Tryz.prog 85 [.agg (parL true p),.val (.int .i64 (L0:Int)),.val (.bool true),.eptr 0 0 0 0] [(0,.lit 117 (rfD s (dS s p n L0 k0)))] (.tup [.agg (elL false L0 true (L0+1) n (fun i x=>dV s p n L0 (k0+i) x)),.val (.int .i64 0)]) [(0,.lit 117 (rfD s (dS s p n L0 (k0+(L0+1)))))] []:=by
 refine den_intro (fn:=Tryz.f85) rfl rfl rfl rfl rfl ?_
 have hN:NatIs p.n n:=hL.n
 have h32:=hL.n32
 have l2:=hL.l2
 have l24:=hL.vp.len2
 have hm:=modQ_in hL.vp hL.sp hL.l2
 have hrow:∀ i,i<L0+1→DenH Tryz.prog 151 [.eptr 0 0 0 0,.val (.int .i64 p.n),.val (.int .u32 ((modQ p L0 i:Nat):Int))] [(0,.lit 117 (rfD s (dS s p n L0 (k0+i))))] (.tup [u32sF false n (dV s p n L0 (k0+i)),.val (.int .i64 0)]) [(0,.lit 117 (rfD s (dS s p n L0 (k0+(i+1)))))] []:=fun i hi=>by
  obtain ⟨l,h1,h2,h3⟩:=d_ok (hok i hi)
  rw [dw_row p L0 k0 hk0 hi] at h1
  rw [hL.n]
  exact refUniform_ok s _ _ _ n l hs (dS_le _) (by have:=hm i;omega) (by have:=hm i;omega) (by omega) h1 _ h3 h2
 generalize dS s p n L0=S at *
 generalize dV s p n L0=V at *
 refine go ?_
 refine r_bsl0 1 (fun _=>[]) ?_
 refine go ?_
 refine c_arr (1000+26) (fun k=>[.val (.int .u32 ((modQ p L0 k:Nat):Int))]) (fun e he=>?_) (fun _=>rfl) ?_
 ·unfold modQ
  by_cases q:e<L0
  ·rw [appF_lt (by omega),if_pos q]
   show [D.val (.int .u32 ((p.chain.getD (0+e) 0:Nat):Int))]=_
   rw [Nat.zero_add]
  ·rw [appF_ge (by omega),if_neg q,show e - (0+(L0 - 0))=0 by omega];rfl
 refine c_nilcell 1011 2 1900 23 1 (fun k=>[u32sF false n (V (k0+k))]) ?_
 refine c_up (L0+1) (fun i=>[(12,.val (.int .i64 (i:Nat)))]) (fun i=>[(0,some (.lit 117 (rfD s (S (k0+i))))),(1011,some (.lit 35 [.val (.int .i64 (L0:Int)),.val (.bool true),.sl 1900 1 i])),(1900,some (.arr 23 i 1 (fun k=>[u32sF false n (V (k0+k))])))]) (fun i hi=>?_)
 refine go ?_
 refine c_if (fun h3=>?_) (fun h3=>?_)
 ·refine go ?_
  refine r_callM 0 (hrow i (by omega)) ?_
  refine go ?_
  refine ⟨by omega,?_⟩
  refine sub_arr (1000+55) (fun k=>[u32sF false n (V (k0+k))]) (appF_snoc rfl) (fun _=>rfl) ?_
  refine sub_toL [52] (1000+55) 1900 ?_
  exact sub
 ·obtain rfl:i=L0+1:=by omega
  refine go ?_
  refine fin_freeze 1900 ?_
  refine finH ?_
  exact cv
theorem r13Uniform_no (i0:Nat) (hi0:i0<L0+1) (hok:∀ i,i<i0→dBad s p n L0 (k0+i)=false) (hbad:dBad s p n L0 (k0+i0)=true):DenH Tryz.prog 85 [.agg (parL true p),.val (.int .i64 (L0:Int)),.val (.bool true),.eptr 0 0 0 0] [(0,.lit 117 (rfD s (dS s p n L0 k0)))] (.tup [.agg zeroEl,.val (.int .i64 4)]) [(0,.lit 117 (rfD s (dS s p n L0 (k0+i0))))] []:=by
 refine den_intro (fn:=Tryz.f85) rfl rfl rfl rfl rfl ?_
 have hN:NatIs p.n n:=hL.n
 have h32:=hL.n32
 have l2:=hL.l2
 have l24:=hL.vp.len2
 have hm:=modQ_in hL.vp hL.sp hL.l2
 have hrow:∀ i,i<i0→DenH Tryz.prog 151 [.eptr 0 0 0 0,.val (.int .i64 p.n),.val (.int .u32 ((modQ p L0 i:Nat):Int))] [(0,.lit 117 (rfD s (dS s p n L0 (k0+i))))] (.tup [u32sF false n (dV s p n L0 (k0+i)),.val (.int .i64 0)]) [(0,.lit 117 (rfD s (dS s p n L0 (k0+(i+1)))))] []:=fun i hi=>by
  obtain ⟨l,h1,h2,h3⟩:=d_ok (hok i hi)
  rw [dw_row p L0 k0 hk0 (by omega)] at h1
  rw [hL.n]
  exact refUniform_ok s _ _ _ n l hs (dS_le _) (by have:=hm i;omega) (by have:=hm i;omega) (by omega) h1 _ h3 h2
 have hno:DenH Tryz.prog 151 [.eptr 0 0 0 0,.val (.int .i64 p.n),.val (.int .u32 ((modQ p L0 i0:Nat):Int))] [(0,.lit 117 (rfD s (dS s p n L0 (k0+i0))))] (.tup [listD .u32 false [],.val (.int .i64 4)]) [(0,.lit 117 (rfD s (dS s p n L0 (k0+i0))))] []:=by
  have h1:=d_no hbad
  rw [dw_row p L0 k0 hk0 hi0] at h1
  rw [hL.n]
  exact refUniform_no s _ _ n hs (dS_le _) (by have:=hm i0;omega) (by have:=hm i0;omega) (by omega) h1
 generalize dS s p n L0=S at *
 generalize dV s p n L0=V at *
 refine go ?_
 refine r_bsl0 1 (fun _=>[]) ?_
 refine go ?_
 refine c_arr (1000+26) (fun k=>[.val (.int .u32 ((modQ p L0 k:Nat):Int))]) (fun e he=>?_) (fun _=>rfl) ?_
 ·unfold modQ
  by_cases q:e<L0
  ·rw [appF_lt (by omega),if_pos q]
   show [D.val (.int .u32 ((p.chain.getD (0+e) 0:Nat):Int))]=_
   rw [Nat.zero_add]
  ·rw [appF_ge (by omega),if_neg q,show e - (0+(L0 - 0))=0 by omega];rfl
 refine c_nilcell 1011 2 1900 23 1 (fun k=>[u32sF false n (V (k0+k))]) ?_
 refine c_down (fun i=>L0+1 - i) (fun i=>i≤i0) (fun i:Nat=>[(12,.val (.int .i64 (i:Int)))]) (fun i=>[(0,some (.lit 117 (rfD s (S (k0+i))))),(1011,some (.lit 35 [.val (.int .i64 (L0:Int)),.val (.bool true),.sl 1900 1 i])),(1900,some (.arr 23 i 1 (fun k=>[u32sF false n (V (k0+k))])))]) 0 (fun i hi=>?_) (by omega)
 refine go ?_
 by_cases q:i<i0
 ·refine r_callM 0 (hrow i q) ?_
  refine go ?_
  refine ⟨i+1,by omega,by omega,?_⟩
  refine sub_arr (1000+55) (fun k=>[u32sF false n (V (k0+k))]) (appF_snoc rfl) (fun _=>rfl) ?_
  refine sub_toL [52] (1000+55) 1900 ?_
  exact sub
 ·obtain rfl:i=i0:=by omega
  refine r_callM 0 hno ?_
  refine go ?_
  refine finH ?_
  exact cv
end

instance fi48:FI Tryz.prog 48 Tryz.f48:=⟨Tryz.func48,Tryz.call48⟩
theorem swinner_den (p:PD) (n lv L0 mk:Nat) (hL:Lv p n lv) (hL0:Lv p n L0) (hle:lv≤L0) (hmk:lv≤mk) (hmk2:mk≤1000000) (K L:Nat→Nat→Nat→Nat) (hK:∀ j,Vg p L0 (K j)) (hLg:∀ j,Vg p lv (L j)) :
  Den Tryz.prog 48 [.agg (parL true p),.fz true mk 3 (fun i=>elL true L0 true (L0+1) n (K i)),.fz true lv 3 (fun i=>elL true lv true (lv+1) n (L i))] (.agg (elL false lv true (lv+1) n (innV p lv n L (fun j=>resV L0 lv (K j)) lv))):=by
 refine den_intro (fn:=Tryz.f48) rfl rfl rfl rfl rfl ?_
 have h32:=hL.n32
 have h4:=hL.n4
 have h1:=hL.l1
 have l2:=hL.l2
 have l24:=hL.vp.len2
 have hN:NatIs p.n n:=hL.n
 have hfi:Den Tryz.prog 75 [.agg (parL true p),.val (.int .i64 (lv:Int)),.val (.bool true),zerosD n] (.tup [.agg (elL false lv true (lv+1) n (fun _ _=>0)),.val (.int .i64 0)]):=rgZero_den p n lv true hL
 have hV:∀ j,Vg p lv (resV L0 lv (K j)):=fun j=>vg_res hle (hK j)
 have hre:∀ j,Den Tryz.prog 115 [.agg (parL true p),.agg (elL true L0 true (L0+1) n (K j)),.val (.int .i64 (lv:Int)),.val (.bool true)] (.tup [.agg (elL false lv true (lv+1) n (resV L0 lv (K j))),.val (.int .i64 0)]):=fun j=>rgRestrictS_den p n L0 lv hL0 h1 hle (K j) (hK j)
 have hmu:∀ j,Den Tryz.prog 79 [.agg (parL true p),.agg (elL true lv true (lv+1) n (resV L0 lv (K j))),.agg (elL true lv true (lv+1) n (L j))] (.tup [.agg (elL false lv true (lv+1) n (prdV p lv n (L j) (resV L0 lv (K j)))),.val (.int .i64 0)]):=fun j=>rgMulC_den p n lv true hL _ _ (hV j) (hLg j)
 have had:∀ j,Den Tryz.prog 60 [.agg (parL true p),.agg (elL true lv true (lv+1) n (innV p lv n L (fun j=>resV L0 lv (K j)) j)),.agg (elL true lv true (lv+1) n (prdV p lv n (L j) (resV L0 lv (K j))))] (.tup [.agg (elL false lv true (lv+1) n (innV p lv n L (fun j=>resV L0 lv (K j)) (j+1))),.val (.int .i64 0)]):=fun j=>rgAdd_den p n lv true hL _ _ (vg_inn hL _ _ j) (vg_prd hL _ _)
 have h0:(fun _ _=>0)=innV p lv n L (fun j=>resV L0 lv (K j)) 0:=rfl
 rw [h0] at hfi
 clear hV h0
 have hR:∀ j,resV L0 lv (K j)=(fun j=>resV L0 lv (K j)) j:=fun _=>rfl
 have hre:∀ j,Den Tryz.prog 115 [.agg (parL true p),.agg (elL true L0 true (L0+1) n (K j)),.val (.int .i64 (lv:Int)),.val (.bool true)] (.tup [.agg (elL false lv true (lv+1) n ((fun j=>resV L0 lv (K j)) j)),.val (.int .i64 0)]):=hre
 have hmu:∀ j,Den Tryz.prog 79 [.agg (parL true p),.agg (elL true lv true (lv+1) n ((fun j=>resV L0 lv (K j)) j)),.agg (elL true lv true (lv+1) n (L j))] (.tup [.agg (elL false lv true (lv+1) n (prdV p lv n (L j) ((fun j=>resV L0 lv (K j)) j))),.val (.int .i64 0)]):=hmu
 have had:∀ j,Den Tryz.prog 60 [.agg (parL true p),.agg (elL true lv true (lv+1) n (innV p lv n L (fun j=>resV L0 lv (K j)) j)),.agg (elL true lv true (lv+1) n (prdV p lv n (L j) ((fun j=>resV L0 lv (K j)) j)))] (.tup [.agg (elL false lv true (lv+1) n (innV p lv n L (fun j=>resV L0 lv (K j)) (j+1))),.val (.int .i64 0)]):=had
 generalize hRR:(fun j=>resV L0 lv (K j))=R at *
 clear hRR hR
 generalize hII:innV p lv n L R=I at *
 clear hII
 generalize hPP:prdV p lv n=Q at *
 clear hPP
 refine go ?_
 refine r_call hfi ?_
 refine go ?_
 refine c_up lv (fun j=>[(27,.val (.int .i64 (j:Nat)))]) (fun j=>[(1007,some (.lit 35 (elL false lv true (lv+1) n (I j))))]) (fun j hj=>?_)
 refine go ?_
 refine c_if (fun h3=>?_) (fun h3=>?_)
 ·refine go ?_
  refine r_call (hre j) ?_
  refine go ?_
  refine r_call (hmu j) ?_
  refine go ?_
  refine r_call (had j) ?_
  refine go ?_
  refine ⟨h3,?_⟩
  exact sub
 ·obtain rfl:j=lv:=by omega
  refine go ?_
  refine fin ?_
  exact cv

instance ti90:TI Tryz.prog 90 Tryz.t90 (.array 2 35):=⟨by kernel_rfl,by kernel_rfl⟩
instance zr90:ZR Tryz.prog 90 [.int .i64 0,.bool false,.slice none 0 0,.int .i64 0,.bool false,.slice none 0 0]:=ZR.of ti90 rfl rfl rfl
instance ar90:AR Tryz.prog 90 2 3:=AR.of ti90 ti35 rfl
instance fi11:FI Tryz.prog 11 Tryz.f11:=⟨Tryz.func11,Tryz.call11⟩
instance fi43:FI Tryz.prog 43 Tryz.f43:=⟨Tryz.func43,Tryz.call43⟩
instance fi14:FI Tryz.prog 14 Tryz.f14:=⟨Tryz.func14,Tryz.call14⟩
def fitL (p:PD) (m:Nat) (e:EG):Bool:=e.sp && decide (e.lv=(m:Int)) && eOk p e
theorem swApplyDigits1_den (p:PD) (hvp:VP p) (e:EG) (hln:∀ k,e.ln k≤1000000) (hm:e.m≤1000000) (A:LG) (hA:A.m≤1000000):Den Tryz.prog 43 [.agg (elD true e),.fptr true [lgD true A],.fptr true (parL true p)] (.val (.bool (fitL p A.m e))):=by
 refine den_intro (fn:=Tryz.f43) rfl rfl rfl rfl rfl ?_
 refine go ?_
 refine g_callM (hl:=fun hb=>r_call (rgCheck_den p hvp e.lv e.sp e.m e.ln e.g hln hm) (run_fin rfl)) (h:=?_)
 refine go ?_
 unfold fitL
 rw [show eOk p e=decide (errI (elOk p e.lv e.sp e.m e.ln e.g)=0) from (errI_0 _).symm]
 refine fin ?_
 exact cv
theorem swall2_den (A:LG) (T:EG→Bool) {fl:FuncId} {fn:Func} [FI Tryz.prog fl fn] (l1 l2:List D) [OldDL l1] [OldDL l2] (hA:A.m≤1000000) (hT:∀ i,i<A.m→Den Tryz.prog fl [.agg (elD true (A.E i)),.fptr true l1,.fptr true l2] (.val (.bool (T (A.E i))))):Den Tryz.prog 45 [lgD true A,.clo fl [.fptr true l1,.fptr true l2]] (.val (.bool (evry (fun i=>T (A.E i)) A.m))):=by
 refine den_intro (fn:=Tryz.f45) rfl rfl rfl rfl rfl ?_
 refine go ?_
 refine c_down (fun j=>A.m - j) (fun j=>j≤A.m∧∀ k,k<j→T (A.E k)=true) (fun j:Nat=>[(9,.val (.int .i64 (j:Int)))]) (fun _=>[]) 0 (fun j ⟨hj,hp⟩=>?_) ⟨by omega,fun e he=>by omega⟩
 refine go ?_
 refine c_if (fun h3=>?_) (fun h3=>?_)
 ·refine go ?_
  refine r_callO (hT j h3) ?_
  refine go ?_
  refine c_ifB (fun h4=>?_) (fun h4=>?_)
  ·refine go ?_
   refine fin ?_
   rw [evry_no (f:=fun i=>T (A.E i)) h3 (by simpa using h4)]
   exact cv
  ·refine go ?_
   refine ⟨j+1,⟨by omega,fun i hi=>?_⟩,by omega,?_⟩
   ·by_cases q:i<j
    ·exact hp i q
    ·obtain rfl:i=j:=by omega
     simpa using h4
   ·exact sub
 ·refine go ?_
  refine fin ?_
  rw [evry_iff.2 (fun k hk=>hp k (by omega))]
  exact cv
abbrev lgV (m lv:Nat) (sp:Bool) (M n:Nat) (K:Nat→Nat→Nat→Nat):LG:=⟨m,fun i=>⟨lv,sp,M,fun _=>n,K i⟩⟩
abbrev keyV (o:Bool) (f:Int) (L0 n:Nat) (A B:Nat→Nat→Nat→Nat):List D:=[.val (.int .i64 f),.fz o L0 3 (fun i=>elL o L0 true (L0+1) n (A i)),.fz o L0 3 (fun i=>elL o L0 true (L0+1) n (B i))]
theorem eOk_V {p:PD} {n lv:Nat} (h:Lv p n lv) {g:Nat→Nat→Nat} (hg:Vg p lv g):eOk p ⟨lv,true,lv+1,fun _=>n,g⟩=true:=elOk_valid (sp:=true) h hg
structure Kv (p:PD) (n L0:Nat) (f:Int) (A B:Nat→Nat→Nat→Nat):Prop where
 fit:PFit p
 good:Good p.par
 lv:Lv p n L0
 top:L0=p.chain.length
 from_:fromB p f=true
 a:∀ i,Vg p L0 (A i)
 b:∀ i,Vg p L0 (B i)
theorem Kv.key {p:PD} {n L0:Nat} {f:Int} {A B:Nat→Nat→Nat→Nat} (h:Kv p n L0 f A B):keyB p f (lgV L0 L0 true (L0+1) n A) (lgV L0 L0 true (L0+1) n B)=true:=by
 have e:∀ (G:Nat→Nat→Nat→Nat),(∀ i,Vg p L0 (G i))→evry (fun i=>fitE p ((lgV L0 L0 true (L0+1) n G).E i)) L0=true:=fun G hG=>evry_iff.2 (fun i _=>by
  show (true && decide ((L0:Int)=(p.chain.length:Int)) && eOk p ⟨L0,true,L0+1,fun _=>n,G i⟩)=true
  rw [eOk_V h.lv (hG i),decide_eq_true (by rw [h.top])];rfl)
 unfold keyB
 rw [goodB_iff.2 h.good,h.from_]
 show (true && true && decide (L0=p.chain.length) && decide (L0=p.chain.length) && evry (fun i=>fitE p ((lgV L0 L0 true (L0+1) n A).E i)) L0 && evry (fun i=>fitE p ((lgV L0 L0 true (L0+1) n B).E i)) L0)=true
 rw [e A h.a,e B h.b,decide_eq_true h.top];rfl
theorem Kv.fitA {p:PD} {n L0:Nat} {f:Int} {A B:Nat→Nat→Nat→Nat} (h:Kv p n L0 f A B) (G:Nat→Nat→Nat→Nat):LFit (lgV L0 L0 true (L0+1) n G):=by
 have:=h.lv.l2
 have:=h.lv.vp.len2
 have:=h.lv.n32
 exact ⟨by show L0≤_;omega,fun _=>by show L0+1≤_;omega,fun _ _=>by show n≤_;omega⟩
theorem Kv.check {p:PD} {n L0:Nat} {f:Int} {A B:Nat→Nat→Nat→Nat} (h:Kv p n L0 f A B):Den Tryz.prog 34 [.agg (parL true p),.agg (keyV true f L0 n A B)] (.val (.int .i64 0)):=by
 have:=swCheckKey_den p h.fit f (lgV L0 L0 true (L0+1) n A) (lgV L0 L0 true (L0+1) n B) (h.fitA A) (h.fitA B)
 rw [h.key] at this
 exact this
theorem swApplyDigits_ok (p:PD) (n L0:Nat) (f:Int) (A B:Nat→Nat→Nat→Nat) (h:Kv p n L0 f A B) (lv ex:Nat) (hC:Cv p n lv ex) (L:Nat→Nat→Nat→Nat) (hLg:∀ j,Vg p lv (L j)) (b:Nat) (hb:b=invV (resI ((p.prime ^ ex:Nat):Int) p.special) p.special) :
  Den Tryz.prog 11 [.agg (parL true p),.agg (keyV true f L0 n A B),.fz true lv 3 (fun i=>elL true lv true (lv+1) n (L i)),.val (.int .i64 (ex:Int))]
   (.tup [.agg (elL false lv false lv n (downV p lv b p.special (p.prime ^ ex) (innV p lv n L (fun j=>resV L0 lv (A j)) lv))),.agg (elL false lv false lv n (downV p lv b p.special (p.prime ^ ex) (innV p lv n L (fun j=>resV L0 lv (B j)) lv))),.val (.int .i64 0)]):=by
 refine den_intro (fn:=Tryz.f11) rfl rfl rfl rfl rfl ?_
 have hL:=hC.lv
 have h32:=hL.n32
 have h1:=hL.l1
 have l2:=hL.l2
 have l24:=hL.vp.len2
 have e1:=hC.st.e1
 have e2:=hC.st.e2
 have ht:=h.top
 have hall:evry (fun i=>fitL p lv ((lgV lv lv true (lv+1) n L).E i)) lv=true:=evry_iff.2 (fun i _=>by
  show (true && decide ((lv:Int)=(lv:Int)) && eOk p ⟨lv,true,lv+1,fun _=>n,L i⟩)=true
  rw [eOk_V hL (hLg i),decide_eq_true rfl];rfl)
 have hsa:Den Tryz.prog 45 [.fz true lv 3 (fun i=>elL true lv true (lv+1) n (L i)),.clo 43 [.fptr true [.fz true lv 3 (fun i=>elL true lv true (lv+1) n (L i))],.fptr true (parL true p)]] (.val (.bool true)):=by
  have:=swall2_den (lgV lv lv true (lv+1) n L) (fitL p lv) [lgD true (lgV lv lv true (lv+1) n L)] (parL true p) (by show lv≤_;omega) (fun i hi=>swApplyDigits1_den p hL.vp _ (fun _=>by show n≤_;omega) (by show lv+1≤_;omega) (lgV lv lv true (lv+1) n L) (by show lv≤_;omega))
  rw [hall] at this
  exact this
 have hIA:=swinner_den p n lv L0 L0 hL h.lv (by omega) (by omega) (by omega) A L h.a hLg
 have hIB:=swinner_den p n lv L0 L0 hL h.lv (by omega) (by omega) (by omega) B L h.b hLg
 obtain ⟨b1,b2,b3⟩:=good_pow hC.st.good hC.st.e2
 have hT:=b1 ex (Nat.le_refl _)
 have hDA:=swdivide_den p n lv (p.prime ^ ex) hL hT (innV p lv n L (fun j=>resV L0 lv (A j)) lv) (vg_inn hL _ _ _) b hb
 have hDB:=swdivide_den p n lv (p.prime ^ ex) hL hT (innV p lv n L (fun j=>resV L0 lv (B j)) lv) (vg_inn hL _ _ _) b hb
 generalize innV p lv n L (fun j=>resV L0 lv (A j)) lv=X at *
 generalize innV p lv n L (fun j=>resV L0 lv (B j)) lv=Y at *
 generalize downV p lv b p.special (p.prime ^ ex) X=X' at *
 generalize downV p lv b p.special (p.prime ^ ex) Y=Y' at *
 have hpm:=pModulus_den p h.fit lv ex hC.st
 refine go ?_
 refine r_call h.check ?_
 refine go ?_
 refine g_callM (hl:=fun hb=>r_call hsa (run_fin rfl)) (h:=?_)
 refine go ?_
 refine c_ifB (fun h2=>?_) (fun h2=>?_)
 ·exfalso
  simp at h2
  omega
 clear h2
 refine go ?_
 refine r_call hpm ?_
 refine go ?_
 refine r_call hIA ?_
 refine go ?_
 refine r_call hDA ?_
 refine go ?_
 refine r_call hIB ?_
 refine go ?_
 refine r_call hDB ?_
 refine go ?_
 refine fin ?_
 exact cv

instance fi12:FI Tryz.prog 12 Tryz.f12:=⟨Tryz.func12,Tryz.call12⟩
instance fi15:FI Tryz.prog 15 Tryz.f15:=⟨Tryz.func15,Tryz.call15⟩
instance fi50:FI Tryz.prog 50 Tryz.f50:=⟨Tryz.func50,Tryz.call50⟩
theorem r18fits_den (p:PD) (hvp:VP p) (hs:p.special≠0) (L:LG) (hL:LFit L):Den Tryz.prog 50 [.agg (parL true p),lgD true L] (.val (.bool (evry (fun i=>fitL p L.m (L.E i)) L.m && decide (0<L.m)))):=by
 refine den_intro (fn:=Tryz.f50) rfl rfl rfl rfl rfl ?_
 have hLm:=hL.m
 refine go ?_
 refine c_down (fun j=>L.m - j) (fun j=>j≤L.m∧∀ k,k<j→fitL p L.m (L.E k)=true) (fun j:Nat=>[(5,.val (.int .i64 (j:Int)))]) (fun _=>[]) 0 (fun j ⟨hj,hF⟩=>?_) ⟨by omega,fun e he=>by omega⟩
 refine go ?_
 refine c_if (fun h3=>?_) (fun h3=>?_)
 ·have hfe:fitL p L.m (L.E j) = !(decide (errI (eOk p (L.E j))≠0) || !(L.E j).sp || decide ((L.E j).lv≠(L.m:Int))):=by
   unfold fitL
   cases q1:eOk p (L.E j)<;>cases q2:(L.E j).sp<;>simp [errI]
  refine go ?_
  refine r_call (r09Check_den p hvp hs (L.E j) (hL.l j) (hL.e j)) ?_
  refine go ?_
  refine c_ifB (fun h4=>?_) (fun h4=>?_)
  ·refine go ?_
   refine fin ?_
   rw [evry_no (f:=fun i=>fitL p L.m (L.E i)) h3 (by show fitL p L.m (L.E j)=false;rw [hfe,h4];rfl)]
   exact cv
  ·refine go ?_
   refine ⟨j+1,⟨by omega,fun i hi=>?_⟩,by omega,?_⟩
   ·by_cases q:i<j
    ·exact hF i q
    ·obtain rfl:i=j:=by omega
     rw [hfe,h4];rfl
   ·exact sub
 ·refine go ?_
  refine fin ?_
  rw [evry_iff.2 (fun k hk=>hF k (by omega))]
  exact cv
theorem Kv.check18 {p:PD} {n L0:Nat} {f:Int} {A B:Nat→Nat→Nat→Nat} (h:Kv p n L0 f A B):Den Tryz.prog 35 [.agg (parL true p),.agg (keyV true f L0 n A B)] (.val (.int .i64 0)):=by
 have:=r18CheckKey_den p h.fit f (lgV L0 L0 true (L0+1) n A) (lgV L0 L0 true (L0+1) n B) (h.fitA A) (h.fitA B)
 rw [h.key] at this
 exact this
abbrev sum2 (lv n:Nat) (X Y:Nat→Nat→Nat):List D:=elL false lv true (lv+1) n X++elL false lv true (lv+1) n Y
abbrev sumJ (lv n:Nat):Nat→List D
 | 0=>zeroEl++zeroEl
 | 1=>elL false lv true (lv+1) n (fun _ _=>0)++zeroEl
 | _=>elL false lv true (lv+1) n (fun _ _=>0)++elL false lv true (lv+1) n (fun _ _=>0)
theorem r18ApplyDigits_ok (p:PD) (n L0:Nat) (f:Int) (A B:Nat→Nat→Nat→Nat) (h:Kv p n L0 f A B) (lv ex:Nat) (hC:Cv p n lv ex) (L:Nat→Nat→Nat→Nat) (hLg:∀ j,Vg p lv (L j)) (b:Nat) (hb:b=invV (resI ((p.prime ^ ex:Nat):Int) p.special) p.special) :
  Den Tryz.prog 12 [.agg (parL true p),.agg (keyV true f L0 n A B),.fz true lv 3 (fun i=>elL true lv true (lv+1) n (L i)),.val (.int .i64 (ex:Int))]
   (.tup [.agg (elL false lv false lv n (downV p lv b p.special (p.prime ^ ex) (innV p lv n L (fun j=>resV L0 lv (A j)) lv))),.agg (elL false lv false lv n (downV p lv b p.special (p.prime ^ ex) (innV p lv n L (fun j=>resV L0 lv (B j)) lv))),.val (.int .i64 0)]):=by
 refine den_intro (fn:=Tryz.f12) rfl rfl rfl rfl rfl ?_
 have hL:=hC.lv
 have h32:=hL.n32
 have hN:NatIs p.n n:=hL.n
 have h1:=hL.l1
 have l2:=hL.l2
 have l24:=hL.vp.len2
 have e1:=hC.st.e1
 have e2:=hC.st.e2
 have ht:=h.top
 have hle:lv≤L0:=by omega
 have hst:Den Tryz.prog 49 [.agg (parL true p),.val (.int .i64 1),.val (.int .i64 (ex:Int))] (.val (.bool true)):=by
  have:=r14State_den p h.fit 1 (ex:Int)
  rw [stB_iff.2 ⟨h.good,by omega,by omega,e1,e2⟩] at this
  exact this
 have hall:evry (fun i=>fitL p lv ((lgV lv lv true (lv+1) n L).E i)) lv=true:=evry_iff.2 (fun i _=>by
  show (true && decide ((lv:Int)=(lv:Int)) && eOk p ⟨lv,true,lv+1,fun _=>n,L i⟩)=true
  rw [eOk_V hL (hLg i),decide_eq_true rfl];rfl)
 have hsa:Den Tryz.prog 50 [.agg (parL true p),.fz true lv 3 (fun i=>elL true lv true (lv+1) n (L i))] (.val (.bool true)):=by
  have:=r18fits_den p hL.vp hL.sp (lgV lv lv true (lv+1) n L) ⟨by show lv≤_;omega,fun _=>by show lv+1≤_;omega,fun _ _=>by show n≤_;omega⟩
  rw [show evry (fun i=>fitL p (lgV lv lv true (lv+1) n L).m ((lgV lv lv true (lv+1) n L).E i)) (lgV lv lv true (lv+1) n L).m=true from hall,show decide (0<(lgV lv lv true (lv+1) n L).m)=true from decide_eq_true (by show 0<lv;omega)] at this
  exact this
 obtain ⟨b1,b2,b3⟩:=good_pow hC.st.good hC.st.e2
 have hT:=b1 ex (Nat.le_refl _)
 have hq:p.special=modQ p lv lv:=by unfold modQ;rw [if_neg (by omega)]
 have hpl:=r13Plain_den p ex b1 (good_ex b1 b2)
 have hz:Den Tryz.prog 51 [.agg (parL true p),.agg (elL true lv true (lv+1) n (L 0)),zerosD n] (.agg (elL false lv true (lv+1) n (fun _ _=>0))):=r13Zero_den p n lv true hL _ rfl
 have hre:∀ (K:Nat→Nat→Nat→Nat),(∀ j,Vg p L0 (K j))→∀ j,Den Tryz.prog 52 [.agg (parL true p),.agg (elL true L0 true (L0+1) n (K j)),.val (.int .i64 (lv:Int)),.val (.bool true)] (.tup [.agg (elL false lv true (lv+1) n (resV L0 lv (K j))),.val (.int .i64 0)]):=fun K hK j=>r09RestrictS_den p n L0 lv h.lv h1 hle (K j) (hK j)
 have hmu:∀ (K:Nat→Nat→Nat→Nat),(∀ j,Vg p L0 (K j))→∀ j,Den Tryz.prog 54 [.agg (parL true p),.agg (elL true lv true (lv+1) n (L j)),.agg (elL true lv true (lv+1) n (resV L0 lv (K j)))] (.agg (elL false lv true (lv+1) n (prdV p lv n (L j) (resV L0 lv (K j))))):=fun K hK j=>r13Mul_den p n lv true hL _ _ (hLg j) (vg_res hle (hK j))
 have had:∀ (K:Nat→Nat→Nat→Nat),(∀ j,Vg p L0 (K j))→∀ j,Den Tryz.prog 53 [.agg (parL true p),.agg (elL true lv true (lv+1) n (innV p lv n L (fun j=>resV L0 lv (K j)) j)),.agg (elL true lv true (lv+1) n (prdV p lv n (L j) (resV L0 lv (K j))))] (.agg (elL false lv true (lv+1) n (innV p lv n L (fun j=>resV L0 lv (K j)) (j+1)))):=fun K hK j=>by
  have:=r13Add_den p n lv true hL _ _ (vg_inn hL L (fun j=>resV L0 lv (K j)) j) (vg_prd hL (L j) (resV L0 lv (K j)))
  rw [sumV_1 hL] at this
  exact this
 have hdv:∀ X,Vg p lv X→Den Tryz.prog 56 [.agg (parL true p),.agg (elL true lv true (lv+1) n X),.val (.int .u32 (p.special:Int)),.val (.int .i64 ((p.prime ^ ex:Nat):Int))] (.agg (elL false lv false lv n (downV p lv b p.special (p.prime ^ ex) X))):=fun X hX=>by
  have:=r18DividedS_den p n lv (p.prime ^ ex) hL hT X hX p.special b hq hb
  rw [divS_eq hL] at this
  exact this
 have dA:=hdv _ (vg_inn hL L (fun j=>resV L0 lv (A j)) lv)
 have dB:=hdv _ (vg_inn hL L (fun j=>resV L0 lv (B j)) lv)
 have zA:(fun _ _=>0)=innV p lv n L (fun j=>resV L0 lv (A j)) 0:=rfl
 have zB:(fun _ _=>0)=innV p lv n L (fun j=>resV L0 lv (B j)) 0:=rfl
 have reA:∀ j,Den Tryz.prog 52 [.agg (parL true p),.agg (elL true L0 true (L0+1) n (A j)),.val (.int .i64 (lv:Int)),.val (.bool true)] (.tup [.agg (elL false lv true (lv+1) n ((fun j=>resV L0 lv (A j)) j)),.val (.int .i64 0)]):=hre A h.a
 have reB:∀ j,Den Tryz.prog 52 [.agg (parL true p),.agg (elL true L0 true (L0+1) n (B j)),.val (.int .i64 (lv:Int)),.val (.bool true)] (.tup [.agg (elL false lv true (lv+1) n ((fun j=>resV L0 lv (B j)) j)),.val (.int .i64 0)]):=hre B h.b
 have muA:∀ j,Den Tryz.prog 54 [.agg (parL true p),.agg (elL true lv true (lv+1) n (L j)),.agg (elL true lv true (lv+1) n ((fun j=>resV L0 lv (A j)) j))] (.agg (elL false lv true (lv+1) n (prdV p lv n (L j) ((fun j=>resV L0 lv (A j)) j)))):=hmu A h.a
 have muB:∀ j,Den Tryz.prog 54 [.agg (parL true p),.agg (elL true lv true (lv+1) n (L j)),.agg (elL true lv true (lv+1) n ((fun j=>resV L0 lv (B j)) j))] (.agg (elL false lv true (lv+1) n (prdV p lv n (L j) ((fun j=>resV L0 lv (B j)) j)))):=hmu B h.b
 have adA:∀ j,Den Tryz.prog 53 [.agg (parL true p),.agg (elL true lv true (lv+1) n (innV p lv n L (fun j=>resV L0 lv (A j)) j)),.agg (elL true lv true (lv+1) n (prdV p lv n (L j) ((fun j=>resV L0 lv (A j)) j)))] (.agg (elL false lv true (lv+1) n (innV p lv n L (fun j=>resV L0 lv (A j)) (j+1)))):=had A h.a
 have adB:∀ j,Den Tryz.prog 53 [.agg (parL true p),.agg (elL true lv true (lv+1) n (innV p lv n L (fun j=>resV L0 lv (B j)) j)),.agg (elL true lv true (lv+1) n (prdV p lv n (L j) ((fun j=>resV L0 lv (B j)) j)))] (.agg (elL false lv true (lv+1) n (innV p lv n L (fun j=>resV L0 lv (B j)) (j+1)))):=had B h.b
 clear hre hmu had hdv
 generalize (fun j=>resV L0 lv (A j))=RA at *
 generalize (fun j=>resV L0 lv (B j))=RB at *
 generalize innV p lv n L RA=X at *
 generalize innV p lv n L RB=Y at *
 generalize prdV p lv n=Q at *
 generalize downV p lv b p.special (p.prime ^ ex)=DV at *
 refine go ?_
 refine r_call h.check18 ?_
 refine go ?_
 refine g_callM (hl:=fun hb=>r_call hst (run_fin rfl)) (h:=?_)
 refine go ?_
 refine g_callM (hl:=fun hb=>r_call hsa (run_fin rfl)) (h:=?_)
 refine go ?_
 refine c_ifB (fun h2=>?_) (fun h2=>?_)
 ·exfalso
  simp at h2
  omega
 clear h2
 refine go ?_
 refine c_down (fun j=>2 - j) (fun j=>j≤2) (fun j:Nat=>[(12,.val (.int .i64 (j:Int)))]) (fun j=>[(1011,some (.lit 90 (sumJ lv n j)))]) 0 (fun j hj=>?_) (by omega)
 refine go ?_
 refine c_if (fun h3=>?_) (fun h3=>?_)
 ·obtain rfl | rfl:j=0∨j=1:=by omega
  ·refine go ?_
   refine r_call hz ?_
   refine go ?_
   refine ⟨1,by omega,by omega,?_⟩
   exact sub
  ·refine go ?_
   refine r_call hz ?_
   refine go ?_
   refine ⟨2,by omega,by omega,?_⟩
   exact sub
 obtain rfl:j=2:=by omega
 refine c_lit 1011 (sum2 lv n (X 0) (Y 0)) (by rw [← zA,← zB];exact .cons (.refl _) (.cons (.refl _) (.cons (.refl _) (.cons (.refl _) (.cons (.refl _) (.cons (.refl _) .nil)))))) ?_
 refine go ?_
 refine c_up lv (fun j=>[(13,.val (.int .i64 (j:Nat)))]) (fun j=>[(1011,some (.lit 90 (sum2 lv n (X j) (Y j))))]) (fun j hj=>?_)
 refine go ?_
 refine c_if (fun h3=>?_) (fun h3=>?_)
 ·refine go ?_
  refine r_call (reA j) ?_
  refine go ?_
  refine r_call (reB j) ?_
  refine go ?_
  refine r_call (muA j) ?_
  refine go ?_
  refine r_call (adA j) ?_
  refine go ?_
  refine r_call (muB j) ?_
  refine go ?_
  refine r_call (adB j) ?_
  refine go ?_
  refine ⟨h3,?_⟩
  exact sub
 ·obtain rfl:j=lv:=by omega
  refine go ?_
  refine r_call hpl ?_
  refine go ?_
  refine r_call dA ?_
  refine go ?_
  refine r_call dB ?_
  refine go ?_
  refine fin ?_
  exact cv

instance fi84:FI Tryz.prog 84 Tryz.f84:=⟨Tryz.func84,Tryz.call84⟩
instance fi30:FI Tryz.prog 30 Tryz.f30:=⟨Tryz.func30,Tryz.call30⟩
theorem list_rowI {o:Bool} {l:List Nat} {n:Nat} (b:Int) (h:l.length=n):Cvt (listD .i64 o (l.map (fun v:Nat=>(v:Int) - b))) (intsD o n (fun j=>(l.getD j 0:Nat) - b)):=by
 subst h
 have e:∀ k,k<l.length→(l.map (fun v:Nat=>(v:Int) - b)).getD k 0=((l.getD k 0:Nat):Int) - b:=fun k hk=>by
  rw [List.getD_eq_getElem?_getD,List.getD_eq_getElem?_getD,List.getElem?_map,List.getElem?_eq_getElem hk];rfl
 show Cvt (D.fz o (l.map (fun v:Nat=>(v:Int) - b)).length 1 _) (D.fz o l.length 1 _)
 rw [List.length_map]
 refine Cvt.fz (.inl rfl) (fun k hk=>⟨rfl,fun c hc=>?_⟩)
 obtain rfl:c=0:=by have:c<1:=hc;omega
 exact .of_eq (by show D.val (.int .i64 ((l.map (fun v:Nat=>(v:Int) - b)).getD k 0))=D.val (.int .i64 (((l.getD k 0:Nat):Int) - b));rw [e k hk])
theorem refBounded_ok (s:ByteArray) (c d b n:Nat) (l:List Nat) (hs:s.size≤1048576) (hc:c≤8*s.size) (hq:b≤2147483647) (hn:n≤4096) (hk:tkL s (2*b+1) n c=some (l,d)) (V:Nat→Nat) (hV:∀ j,V j=l.getD j 0) (hl:l.length=n):DenH Tryz.prog 86 [.eptr 0 0 0 0,.val (.int .i64 (n:Int)),.val (.int .u32 (b:Int))] [(0,.lit 117 (rfD s c))] (.tup [intsD false n (fun j=>(V j:Int) - (b:Int)),.val (.int .i64 0)]) [(0,.lit 117 (rfD s d))] []:=by
 have h:=refBounded_den s c b (n:Int) hs hc (by omega)
 have e:boundedR s c (n:Int) b=(l.map (fun v:Nat=>(v:Int) - (b:Int)),0,d):=by
  unfold boundedR
  rw [if_neg (by omega),Int.toNat_natCast,hk]
 rw [e] at h
 rw [show V=fun j=>l.getD j 0 from funext hV]
 exact h.res (Cvt.tup (.cons (list_rowI (b:Int) hl) (.cons (.of_eq rfl) .nil)))
theorem refBounded_no (s:ByteArray) (c b n:Nat) (hs:s.size≤1048576) (hc:c≤8*s.size) (hq:b≤2147483647) (hn:n≤4096) (hk:tkL s (2*b+1) n c=none):DenH Tryz.prog 86 [.eptr 0 0 0 0,.val (.int .i64 (n:Int)),.val (.int .u32 (b:Int))] [(0,.lit 117 (rfD s c))] (.tup [listD .i64 false [],.val (.int .i64 4)]) [(0,.lit 117 (rfD s c))] []:=by
 have h:=refBounded_den s c b (n:Int) hs hc (by omega)
 have e:boundedR s c (n:Int) b=([],4,c):=by
  unfold boundedR
  rw [if_neg (by omega),Int.toNat_natCast,hk]
 rw [e] at h
 exact h
def srcV (n:Nat) (x:Nat→Int) (f:Int):Nat→Int:=if f=2 then pw x n 2 else tR n (-f).toNat x n
theorem srcV_in {n:Nat} {x:Nat→Int} {f:Int} (hn:n≤32) (hx:∀ j, -1≤x j∧x j≤1) (j:Nat) : -4000000≤srcV n x f j∧srcV n x f j≤4000000:=by
 unfold srcV
 split
 ·unfold pw
  split
  ·have:=zS_in (pw1_in (n:=n) hn hx) hx hn (by omega) (show n≤32 from hn) (show 0≤32 by omega) j
   unfold zS at this
   simp only [zk] at this
   omega
  ·omega
 ·have:=tR_in (n:=n) (k:=(-f).toNat) hx j n
  omega
theorem r18source_den (p:PD) (hp:PFit p) (n:Nat) (x:Nat→Int) (hN:p.n=(n:Int)) (h:scB p n x=true) (hx:∀ j, -1≤x j∧x j≤1) (f:Int) (hf:fromB p f=true):Den Tryz.prog 84 [.agg (parL true p),.agg (scL true n x),.val (.int .i64 f)] (intsD false n (srcV n x f)):=by
 have hg:=(sc_all h).1
 obtain ⟨n',hn',n4,n32⟩:=good_n hg
 obtain rfl:n'=n:=by omega
 refine den_intro (fn:=Tryz.f84) rfl rfl rfl rfl rfl ?_
 refine go ?_
 refine c_if (fun h1=>?_) (fun h1=>?_)
 ·refine go ?_
  refine r_call (r13Power2_den p hp n' x hg hN h hx) ?_
  refine go ?_
  refine fin ?_
  rw [show srcV n' x f=pw x n' 2 from if_pos h1]
  exact cv
 ·have hb:f ≤ -3 ∧ -2*p.n<f∧f % 2=1:=by
   unfold fromB at hf
   rw [decide_eq_false h1] at hf
   simp only [Bool.false_or,Bool.and_eq_true,decide_eq_true_eq] at hf
   exact ⟨hf.1.1,hf.1.2,hf.2⟩
  obtain ⟨k,hk⟩:=Int.eq_ofNat_of_zero_le (show 0 ≤ -f by omega)
  have ht:=r13Turned_den p hp n' x hg hN h hx k (by omega) (by omega) (by omega)
  have hi:=r13Ints_den n' (tR n' k x n') (by omega) (fun j=>by have:=tR_in (n:=n') (k:=k) hx j n';omega)
  rw [show srcV n' x f=tR n' k x n' by unfold srcV;rw [if_neg h1,hk];rfl]
  refine go ?_
  refine r_eqS 24 (.val (.int .i64 ((k:Nat):Int))) (d:=.val (.int .i64 (-f))) (by rw [hk]) ?_
  refine go ?_
  refine r_call ht ?_
  refine go ?_
  refine r_call hi ?_
  refine go ?_
  refine fin ?_
  exact cv
def nkA (s:ByteArray) (p:PD) (n L0 j i x:Nat):Nat:=if i<L0+1 then dV s p n L0 (j*(L0+2)+i) x else 0
def nkE (s:ByteArray) (p:PD) (n L0 j x:Nat):Int:=(dV s p n L0 (j*(L0+2)+(L0+1)) x:Int) - (p.err:Int)
def nkP (p:PD) (n L0:Nat) (x:Nat→Int) (f:Int) (j i y:Nat):Nat:=if i=j then mulIntV p L0 (p.special:Int) (intV p L0 (srcV n x f)) i y else 0
def nkB (s:ByteArray) (p:PD) (n L0 t:Nat) (x:Nat→Int) (f:Int) (j:Nat):Nat→Nat→Nat:=sumV p L0 (-1) (addV p L0 (mulIntV p L0 (t:Int) (intV p L0 (nkE s p n L0 j))) (nkP p n L0 x f j)) (prdV p L0 n (nkA s p n L0 j) (intV p L0 x))
section
variable {s:ByteArray} {p:PD} {n L0:Nat} (h:Lv p n L0)
include h
theorem vg_nkA (j:Nat):Vg p L0 (nkA s p n L0 j):=fun r y=>by
 have hm:=modQ_in h.vp h.sp h.l2 r
 unfold nkA
 split
 ·have e:=dw_row p L0 (j*(L0+2)) (Nat.mul_mod_left _ _) (i:=r) ‹_›
  have:=dV_lt (s:=s) (p:=p) (n:=n) (L0:=L0) (k:=j*(L0+2)+r) (by rw [e];omega) y
  rw [e] at this
  exact this
 ·omega
omit h in
theorem nkE_in (he:p.err≤64) (j y:Nat) : -64≤nkE s p n L0 j y∧nkE s p n L0 j y≤64:=by
 have e:=dw_err p L0 (j*(L0+2)) (Nat.mul_mod_left _ _)
 have:=dV_lt (s:=s) (p:=p) (n:=n) (L0:=L0) (k:=j*(L0+2)+(L0+1)) (by rw [e];omega) y
 rw [e] at this
 unfold nkE
 omega
theorem vg_nkP (x:Nat→Int) (f:Int) (j:Nat):Vg p L0 (nkP p n L0 x f j):=fun r y=>by
 unfold nkP
 split
 ·exact vg_mulInt h _ _ r y
 ·exact h.q0 r
theorem vg_nkB (t:Nat) (x:Nat→Int) (f:Int) (j:Nat):Vg p L0 (nkB s p n L0 t x f j):=vg_sum h _ _ _
end
noncomputable abbrev zrow (n:Nat):D:=.fz false n Tryz.t22.size (fun _=>valL (Value.int .u32 0).cells.toList)
noncomputable def strD (n j:Nat) (g:Nat→Nat→Nat) (i k:Nat):List D:=if k<i∧k≠j then [zrow n] else [u32sF false n (g k)]
theorem strD_0 {n j k:Nat} {g:Nat→Nat→Nat}:strD n j g 0 k=[u32sF false n (g k)]:=if_neg (by omega)
theorem strD_set {n j i:Nat} {g:Nat→Nat→Nat} (h:i≠j) (e:Nat):setE (strD n j g i) i 0 [zrow n] e=strD n j g (i+1) e:=by
 unfold setE strD
 by_cases q:e=i
 ·subst q
  rw [if_pos rfl,if_neg (by omega),if_pos (by omega)];rfl
 ·rw [if_neg q]
  by_cases q2:e<i∧e≠j
  ·rw [if_pos q2,if_pos (by omega)]
  ·rw [if_neg q2,if_neg (by omega)]
theorem strD_skip {n j:Nat} {g:Nat→Nat→Nat} (e:Nat):strD n j g j e=strD n j g (j+1) e:=by
 unfold strD
 by_cases q:e<j∧e≠j
 ·rw [if_pos q,if_pos (by omega)]
 ·rw [if_neg q,if_neg (by omega)]
theorem strD_len {n j i:Nat} {g:Nat→Nat→Nat} (e:Nat):(strD n j g i e).length=1:=by unfold strD;split<;>rfl
theorem strD_all {n j M:Nat} {x:Nat→Int} {f:Int} {p:PD} {L0:Nat} {e:Nat} (he:e<M):strD n j (mulIntV p L0 (p.special:Int) (intV p L0 (srcV n x f))) M e=[u32sF false n (nkP p n L0 x f j e)]:=by
 unfold strD
 by_cases q:e=j
 ·rw [if_neg (by omega)]
  rw [show nkP p n L0 x f j e=mulIntV p L0 (p.special:Int) (intV p L0 (srcV n x f)) e from funext fun y=>if_pos q]
 ·rw [if_pos ⟨he,q⟩,show nkP p n L0 x f j e=fun _=>0 from funext fun y=>if_neg q];rfl

instance fi71:FI Tryz.prog 71 Tryz.f71:=⟨Tryz.func71,Tryz.call71⟩
instance fi134:FI Tryz.prog 134 Tryz.f134:=⟨Tryz.func134,Tryz.call134⟩
theorem rgAuto1_den (p:PD) (i q n lv M:Nat) (sp:Bool) (hN:NatIs p.n n) (ga:Nat→Nat→Nat) (hi:i<M) (hM:M≤1001) (hn:n≤32) (h4:4≤n) (k:Nat) (hk1:1≤k) (hk2:k<2*n) (hq0:0<q) (hq:q<4294967296) (ha:∀ i j,ga i j<4294967296) (haq:∀ j,ga i j<q) :
  DenH Tryz.prog 134 [.val (.int .i64 (i:Int)),.val (.int .u64 (q:Int)),.sl 0 1 n,.fptr true (elL true lv sp M n ga),.fptr true [.val (.int .i64 (k:Int))],.fptr true (parL true p)] [(0,rowB n fun _=>0)] (.tup []) [(0,rowB n fun j=>auR n k q (ga i) n j)] []:=by
 refine den_intro (fn:=Tryz.f134) rfl rfl rfl rfl rfl ?_
 refine go ?_
 refine c_arr 0 (fun e=>[.val (.int .u32 ((auR n k q (ga i) 0 e:Nat):Int))]) (fun e he=>rfl) (fun _=>rfl) ?_
 refine c_up n (fun j=>[(18,.val (.int .i64 (j:Nat)))]) (fun j=>[(0,rowB n (auR n k q (ga i) j))]) (fun j hj=>?_)
 have ha':=ha i j
 have hgj:=haq j
 have hmm:=Nat.mod_lt (q - ga i j) hq0
 have hjk:j*k≤32*64:=Nat.mul_le_mul (by omega) (by omega)
 have hat:j*k % (2*n)<2*n:=Nat.mod_lt _ (by omega)
 refine go ?_
 refine c_if (fun h5=>?_) (fun h5=>?_)
 ·refine go ?_
  refine c_if (fun h6=>?_) (fun h6=>?_)
  ·refine go ?_
   refine ⟨h5,?_⟩
   refine row_put 0 (auR n k q (ga i) (j+1)) (auR_hi (by omega) rfl) (fun e _ he=>auR_other (by rw [auP_hi (by omega)];exact he)) ?_
   exact sub
  ·refine go ?_
   refine ⟨h5,?_⟩
   refine row_put 0 (auR n k q (ga i) (j+1)) (auR_lo (by omega) rfl) (fun e _ he=>auR_other (by rw [auP_lo (by omega)];exact he)) ?_
   exact sub
 ·refine go ?_
  obtain rfl:j=n:=by omega
  refine finH ?_
  exact cv
theorem rgAuto_den (p:PD) (n lv:Nat) (sp:Bool) (h:Lv p n lv) (k:Nat) (hk1:1≤k) (hk2:k<2*n) (hk3:k % 2=1) (g:Nat→Nat→Nat) (hg:Vg p lv g) :
  Den Tryz.prog 71 [.agg (parL true p),.agg (elL true lv sp (modN p lv sp) n g),.val (.int .i64 (k:Int))] (.tup [.agg (elL false lv sp (modN p lv sp) n (autV p lv n k g)),.val (.int .i64 0)]):=by
 refine den_intro (fn:=Tryz.f71) rfl rfl rfl rfl rfl ?_
 have hN:NatIs p.n n:=h.n
 have h32:=h.n32
 have h4:=h.n4
 have l2:=h.vp.len2
 have hm:=modQ_in h.vp h.sp h.l2
 have hM:modN p lv sp≤1001:=by have:=h.l2;unfold modN;split<;>omega
 have hck:=rgCheck_den p h.vp (lv:Int) sp (modN p lv sp) (fun _=>n) g (fun _=>by omega) (by omega)
 rw [elOk_valid (sp:=sp) h hg] at hck
 refine go ?_
 refine r_call hck ?_
 refine go ?_
 refine c_ifB (fun q=>?_) (fun q=>?_)
 ·exfalso
  simp at q
  omega
 clear q
 refine go ?_
 refine r_call (rgeach3_den p n lv sp h.n h32 h.l1 h.l2 (by omega) (fun k=>by have:=hm k;omega) (elL true lv sp (modN p lv sp) n g) [.val (.int .i64 (k:Int))] (parL true p) (autV p lv n k g) (fun r hr=>rgAuto1_den p r (modQ p lv r) n lv (modN p lv sp) sp hN g hr hM h32 h4 k hk1 hk2 (by have:=hm r;omega) (by have:=hm r;omega) (fun i j=>by have:=hg i j;have:=hm i;omega) (hg r))) ?_
 refine go ?_
 refine fin ?_
 exact cv

theorem dg_aut {p:PD} {n lv:Nat} (h:Lv p n lv) {g:Nat→Nat→Nat} (hv:Vg p lv g) (k j r e:Nat):autV p lv n k (dgV p lv g j) r e=dgV p lv (autV p lv n k g) j r e:=by
 have hj:=modQ_in h.vp h.sp h.l2 j
 have hr:=modQ_in h.vp h.sp h.l2 r
 show auR n k (modQ p lv r) (fun i=>dgF (modQ p lv j) (modQ p lv r) (g j i)) n e=dgF (modQ p lv j) (modQ p lv r) (auR n k (modQ p lv j) (g j) n e)
 exact auR_map (q:=modQ p lv j) dgF_zero (fun i=>dgF_neg (hv j i) (by omega) (by omega)) e n
end Go.Proofs.YtmjildbdkecolaaGreat
