/- Equal ciphertexts, the program's: by data.
Arithmetic with ciphertexts, by data: sums and differences.
Rescaling, by data: the parts that all its functions share.
Arithmetic with ciphertexts, by data: combine, Add, Sub.
Laws of the rings: plain. No walk.
Laws of ciphertexts' parts: plain. No walk.
Valid ciphertexts among any: by data. No walk.
The reference's ring, by data: elements of integers, rows of the call's own.
Rescaling, by data: rows that are multiplied.
Rescaling, by data: the plain modulus's exponent.
Rescaling, by data: fewer primes.
Rescaling, by data: Drop and Down.
The reference's ring, by data: sums and multiples, rows of the call's own or not.
The program's ring, by data: elements whose rows are the call's own.
Equal ciphertexts, the reference's; Restrict and Balanced: by data.
The reference's sums of elements, by data.
The reference's Restrict and Balanced: by data.
The reference's rescaling, by data: the exponent, fewer primes.
The reference's division by a prime, by data.
The reference's division by the special prime, by data.
Rescaling: the reference's results are the program's. Plain.
Equal ciphertexts, the reference's, of equal data: by data.
The law on exponents, by data: for any results that are alike on both sides.
Elements modulo fewer primes, with the special prime, by data.
Elements modulo fewer primes, with the special prime, by data: the reference.
A contract without arguments from an elder walk. No walk. -/
import Derived.Test.YtmjildbdkecolaaGreatPg36
import Derived.Test.YtmjildbdkecolaaGreatPg20
import Derived.Test.YtmjildbdkecolaaGreatPg19
import Derived.Test.YtmjildbdkecolaaGreatPg18
import Derived.Tactics
import Derived.Tactics2
import Derived.StillTactics
import Derived.Laws.Small
import Derived.Laws.StructEq
import Derived.KernelRfl
set_option linter.unusedSimpArgs false
set_option linter.unusedVariables false
set_option linter.unnecessarySimpa false
set_option linter.unusedSectionVars false
namespace Go.Proofs.YtmjildbdkecolaaGreat
open Go.RowKit
set_option maxRecDepth 20000
set_option maxHeartbeats 4000000
theorem Cvt.aggV3 (a b c:Value):Cvt (.agg [.val a,.val b,.val c]) (.val (.agg #[a,b,c])):=⟨fun {Z w i v} _ hv=>by
 cases hv with | agg _ vs _ hl h1 hr=>
 match vs,hl with
 | [x,y,z],_=>
  have e1:=rep_val (hr 0 (by simp))
  have e2:=rep_val (hr 1 (by simp))
  have e3:=rep_val (hr 2 (by simp))
  change x=a at e1
  change y=b at e2
  change z=c at e3
  subst e1 e2 e3
  exact .val _ _⟩
theorem ciOf_den (c:CG):Den Tryz.prog 97 [.agg (ciD true c)] (.val (.agg #[.int .i64 c.lv,.int .i64 c.ex,.int .i64 (c.k:Int)])):=by
 refine den_intro (fn:=Tryz.f97) rfl rfl rfl rfl rfl ?_
 refine go ?_
 refine fin (CvV.cvt ?_ (Cvt.aggV3 _ _ _))
 exact cv
theorem eqHead (a b c a' b' c':Int) (w:World):(Op.equalIn 10000 138 (.agg #[.int .i64 a,.int .i64 b,.int .i64 c]) (.agg #[.int .i64 a',.int .i64 b',.int .i64 c'])).run Tryz.prog w = .ok (a == a' && (b == b' && c == c')) w:=by
 have u3:=Tryz.underlying3
 have a3:=Tryz.isAgg3
 have z3:=Tryz.sizeOf3
 have hS:Tryz.prog.underlying 138=some (.struct (Tryz.prog.fieldsOf 138)):=by kernel_rfl
 rw [show (10000:Nat)=9999+1 from rfl,run_equalIn_agg w 9999 138 _ _ hS (by kernel_rfl)]
 simp only [Program.fieldsOf,Tryz.underlying138]
 go_simp
 by_cases h1:a=a'<;>by_cases h2:b=b'<;>by_cases h3:c=c'<;>simp [h1,h2,h3]
theorem bg_neq {ox oy:Operand} (a b c a' b' c':Int):BinR Tryz.prog .neq 138 ox oy (.agg #[.int .i64 a,.int .i64 b,.int .i64 c]) (.agg #[.int .i64 a',.int .i64 b',.int .i64 c']) (.bool (!(a == a' && (b == b' && c == c')))):=fun w=>by
 have h:=eqHead a b c a' b' c' w
 simp [eqGuard,run_neq_struct,h,Result.andThen]
theorem ciSame_den (a b:CG) (hk:a.k≤1000000) (hk':b.k≤1000000) (hm:∀ i,(a.P i).m≤1000000) (hm':∀ i,(b.P i).m≤1000000) (hl:∀ i k,(a.P i).ln k≤1000000) (hl':∀ i k,(b.P i).ln k≤1000000):Den Tryz.prog 36 [.agg (ciD true a),.agg (ciD true b)] (.val (.bool (sameC a b))):=by
 refine den_intro (fn:=Tryz.f36) rfl rfl rfl rfl rfl ?_
 refine go ?_
 refine r_call (ciOf_den a) ?_
 refine go ?_
 refine r_call (ciOf_den b) ?_
 refine go ?_
 refine r_bin (hx:=by apply Op1.tmp;(repeat (first | exact Lk.here | apply Lk.there rfl))) (hy:=by apply Op1.tmp;(repeat (first | exact Lk.here | apply Lk.there rfl))) (hr:=bg_neq _ _ _ _ _ _) (hd:=rfl) (h:=?_)
 refine go ?_
 refine c_ifB (fun h1=>?_) (fun h1=>?_)
 ·refine go ?_
  refine fin ?_
  rw [show sameC a b=false by
   unfold sameC
   by_cases q1:a.lv=b.lv
   ·by_cases q2:a.ex=b.ex
    ·by_cases q3:a.k=b.k
     ·exfalso
      simp [q1,q2,q3] at h1
     ·simp [q3]
    ·simp [q2]
   ·simp [q1]]
  exact cv
 ·have q:a.lv=b.lv∧a.ex=b.ex∧a.k=b.k:=by
   simp at h1
   exact ⟨h1.1,h1.2.1,by omega⟩
  have hE:sameC a b=evry (fun i=>sameE (a.P i) (b.P i)) a.k:=by unfold sameC;rw [q.1,q.2.1,q.2.2];simp
  have qk:=q.2.2
  refine go ?_
  refine c_down (fun j=>a.k - j) (fun j=>j≤a.k∧∀ i,i<j→sameE (a.P i) (b.P i)=true) (fun j:Nat=>[(15,.val (.int .i64 (j:Int)))]) (fun _=>[]) 0 (fun j ⟨hj,hp⟩=>?_) ⟨by omega,fun e he=>by omega⟩
  refine go ?_
  refine c_if (fun h3=>?_) (fun h3=>?_)
  ·have h3':j<b.k:=by omega
   refine go ?_
   refine r_call (rgSame_den (a.P j) (b.P j) (hm j) (hm' j) (hl j) (hl' j)) ?_
   refine go ?_
   refine c_ifB (fun h4=>?_) (fun h4=>?_)
   ·refine go ?_
    refine fin ?_
    rw [hE,evry_no (f:=fun i=>sameE (a.P i) (b.P i)) h3 (by simpa using h4)]
    exact cv
   ·refine go ?_
    refine ⟨j+1,⟨by omega,fun k hk=>?_⟩,by omega,?_⟩
    ·by_cases q:k<j
     ·exact hp k q
     ·obtain rfl:k=j:=by omega
      simpa using h4
    ·exact sub
  ·refine go ?_
   obtain rfl:j=a.k:=by omega
   refine fin ?_
   rw [hE,(evry_iff (f:=fun i=>sameE (a.P i) (b.P i))).2 hp]
   exact cv

abbrev partsL (lv n:Nat) (A:Nat→Nat→Nat→Nat):List D:=elL true lv false lv n (A 0)++(elL true lv false lv n (A 1)++elL true lv false lv n (fun _ _=>0))
section
variable {ro:Option Nat} {P:Program} {N:Nat} {Q:Post} {c:Code} {env:List (Nat × D)} {box:List (Nat × Option Box)}
theorem c_lit (k:Nat) {t:TypeId} {l:List D} (l':List D) (hc:SlotCvL (hk box) l l') (h:AWp ro P N c (lk env) (hk ((k,some (.lit t l'))::box)) Q) (hf:(Box.lit t l').free (fun k=>(hk box k).isSome)=true:=by kernel_rfl) (hb:autoParam (Bl box k (.lit t l)) aq9._auto_1):AWp ro P N c (lk env) (hk box) Q:=awp_sub (sub_box k _ (by rw [hb.eq];exact BoxCv.lit hc) hf) h
end

instance (f:FuncId):Cvt (.val (.func (.func f) #[] #[])) (.clo f []):=⟨fun _ hv=>by
 cases hv
 exact .clo _ f [] [] rfl (fun j hj=>by simp at hj)⟩
def fillZ (b:Nat→Int) (j e:Nat):Int:=if e<j then b e else 0
theorem setE_fillZ {h:Nat→Int} {j:Nat} {v:Int} (hv:v=h j) (e:Nat):setE (fun e=>[.val (.int .i64 (fillZ h j e))]) j 0 [.val (.int .i64 v)] e=[.val (.int .i64 (fillZ h (j+1) e))]:=by
 subst hv
 unfold setE
 by_cases q:e=j
 ·subst q;simp [fillZ,setL,takeL,dropL]
 ·have:fillZ h (j+1) e=fillZ h j e:=by unfold fillZ;by_cases q2:e<j<;>simp [q2]<;>omega
  simp [q,this]

instance (lv n:Nat) (A:Nat→Nat→Nat→Nat):OldDL (partsL lv n A):=(inferInstance:OldDL [.val (.int .i64 (lv:Int)),.val (.bool false),rowsD true lv n (A 0),.val (.int .i64 (lv:Int)),.val (.bool false),rowsD true lv n (A 1),.val (.int .i64 (lv:Int)),.val (.bool false),rowsD true lv n (fun _ _=>0)])

def sm (f:Nat→Nat):Nat→Nat
 | 0=>0
 | n+1=>sm f n+f n
theorem sm_congr {f g:Nat→Nat}:∀ {n:Nat},(∀ i,i<n→f i=g i)→sm f n=sm g n
 | 0,_=>rfl
 | n+1,h=>by
  simp only [sm]
  rw [sm_congr (fun i hi=>h i (by omega)),h n (by omega)]
theorem sm_left (f:Nat→Nat):∀ n,sm f (n+1)=f 0+sm (fun i=>f (i+1)) n
 | 0=>by simp [sm]
 | n+1=>by
  have:=sm_left f n
  simp only [sm] at this ⊢
  omega
theorem sm_rev:∀ (f:Nat→Nat) (n:Nat),sm f n=sm (fun i=>f (n - 1 - i)) n
 | f,0=>rfl
 | f,n+1=>by
  rw [sm_left (fun i=>f (n+1 - 1 - i)) n]
  simp only [sm]
  rw [sm_rev f n,Nat.add_comm]
  simp only [Nat.add_sub_cancel,Nat.sub_zero]
  congr 1
  exact sm_congr (fun i hi=>by congr 1;omega)
theorem sm_zero {f:Nat→Nat} {n:Nat} (h:∀ i,i<n→f i=0):sm f n=0:=by
 induction n with
 | zero=>rfl
 | succ n ih=>simp only [sm];rw [ih (fun i hi=>h i (by omega)),h n (by omega)]
theorem sm_skip (g:Nat→Nat) (k:Nat):∀ m,sm (fun j=>if j≤k then 0 else g j) (k+1+m)=sm (fun i=>g (k+1+i)) m
 | 0=>sm_zero (fun i hi=>if_pos (by omega))
 | m+1=>by
  show sm _ (k+1+m)+(if k+1+m≤k then 0 else g (k+1+m))=_
  rw [sm_skip g k m,if_neg (by omega)];rfl
theorem mulA_sm (a b:Nat→Nat) (q k:Nat) (hq:0<q):∀ m,m≤k+1→mulA a b q k m=sm (fun j=>a j*b (k - j)) m % q
 | 0,_=>by simp [mulA,sm]
 | m+1,h=>by
  simp only [mulA,sm]
  rw [if_pos (by omega),mulA_sm a b q k hq m (by omega)]
  simp [Nat.add_mod]
theorem mulA_past (a b:Nat→Nat) (q k:Nat):∀ m,mulA a b q k (k+1+m)=mulA a b q k (k+1)
 | 0=>rfl
 | m+1=>by
  show (if k+1+m≤k then _ else mulA a b q k (k+1+m))=_
  rw [if_neg (by omega)]
  exact mulA_past a b q k m
theorem mulS_sm (a b:Nat→Nat) (q n k:Nat) (hq:0<q):∀ m,mulS a b q n k m=sm (fun j=>if j≤k then 0 else a j*b (k+n - j)) m % q
 | 0=>by simp [mulS,sm]
 | m+1=>by
  simp only [mulS,sm]
  rw [mulS_sm a b q n k hq m]
  by_cases c:m≤k
  ·rw [if_pos c,if_pos c,Nat.add_zero]
  ·rw [if_neg c,if_neg c];simp [Nat.add_mod]
def upS (a b:Nat→Nat) (k:Nat):Nat:=sm (fun j=>a j*b (k - j)) (k+1)
def dnS (a b:Nat→Nat) (n k:Nat):Nat:=sm (fun i=>a (k+1+i)*b (n - 1 - i)) (n - 1 - k)
theorem mulR_eq (a b:Nat→Nat) {q n k:Nat} (hq:0<q) (hk:k<n):mulR a b q n k=(upS a b k % q+q - dnS a b n k % q) % q:=by
 unfold mulR
 obtain ⟨m,rfl⟩:∃ m,n=k+1+m:=⟨n - (k+1),by omega⟩
 rw [mulA_past,mulA_sm a b q k hq (k+1) (Nat.le_refl _),mulS_sm a b q _ k hq,sm_skip]
 unfold upS dnS
 rw [show k+1+m - 1 - k=m by omega]
 rw [sm_congr (f:=fun i=>a (k+1+i)*b (k+(k+1+m) - (k+1+i))) (g:=fun i=>a (k+1+i)*b (k+1+m - 1 - i)) (fun i hi=>by
  show a (k+1+i)*b (k+(k+1+m) - (k+1+i))=a (k+1+i)*b (k+1+m - 1 - i)
  rw [show k+(k+1+m) - (k+1+i)=k+1+m - 1 - i by omega])]
theorem upS_comm (a b:Nat→Nat) (k:Nat):upS a b k=upS b a k:=by
 unfold upS
 rw [sm_rev]
 exact sm_congr (fun i hi=>by
  show a (k+1 - 1 - i)*b (k - (k+1 - 1 - i))=b i*a (k - i)
  rw [show k+1 - 1 - i=k - i by omega,show k - (k - i)=i by omega,Nat.mul_comm])
theorem dnS_comm (a b:Nat→Nat) {n k:Nat} (hk:k<n):dnS a b n k=dnS b a n k:=by
 unfold dnS
 rw [sm_rev]
 exact sm_congr (fun i hi=>by
  show a (k+1+(n - 1 - k - 1 - i))*b (n - 1 - (n - 1 - k - 1 - i))=b (k+1+i)*a (n - 1 - i)
  rw [show k+1+(n - 1 - k - 1 - i)=n - 1 - i by omega,show n - 1 - (n - 1 - k - 1 - i)=k+1+i by omega,Nat.mul_comm])
theorem mulR_comm (a b:Nat→Nat) {q n k:Nat} (hq:0<q) (hk:k<n):mulR a b q n k=mulR b a q n k:=by
 rw [mulR_eq a b hq hk,mulR_eq b a hq hk,upS_comm,dnS_comm a b hk]
theorem resI_nat {c q:Nat} (h:c<q):resI (c:Int) q=c:=by
 have h1:=resI_cast (x:=(c:Int)) (show 0<q by omega)
 rw [Int.emod_eq_of_lt (by omega) (by omega)] at h1
 omega

section
variable {p:PD} {n lv:Nat}
theorem mulInt1 (h:Lv p n lv) {B:Nat→Nat→Nat} (hB:Vg p lv B):mulIntV p lv 1 B=B:=by
 funext r j;unfold mulIntV
 have h1:=hB r j
 have h2:=modQ_in h.vp h.sp h.l2 r
 rw [show (1:Int)=((1:Nat):Int) from rfl,resI_nat (by omega),Nat.mul_one,Nat.mod_eq_of_lt h1]
def constX (c:Int) (j:Nat):Int:=if j=0 then c else 0
end
abbrev cgV (lv ex k n:Nat) (G:Nat→Nat→Nat→Nat):CG:=⟨lv,ex,k,fun i=>⟨lv,false,lv,fun _=>n,G i⟩⟩
theorem sameC_V {lv ex k n:Nat} {A B:Nat→Nat→Nat→Nat} (h:∀ i,i<k→∀ r,r<lv→∀ j,j<n→A i r j=B i r j):sameC (cgV lv ex k n A) (cgV lv ex k n B)=true:=by
 unfold sameC
 rw [(evry_iff (f:=fun i=>sameE ((cgV lv ex k n A).P i) ((cgV lv ex k n B).P i))).2 (fun i hi=>?_)]
 ·simp
 ·unfold sameE
  simp only [decide_true,beq_self_eq_true,Bool.true_and]
  exact sameR_3 (fun r hr=>sameW_3 (fun j hj=>h i hi r hr j hj))
theorem ciSameV_den (lv ex k n:Nat) (hlv:lv≤1000) (hk:k≤3) (hn:n≤32) (A B:Nat→Nat→Nat→Nat) (h:∀ i,i<k→∀ r,r<lv→∀ j,j<n→A i r j=B i r j):Den Tryz.prog 36 [.agg (ciV true lv ex k n A),.agg (ciV true lv ex k n B)] (.val (.bool true)):=by
 have:=ciSame_den (cgV lv ex k n A) (cgV lv ex k n B) (by show k≤_;omega) (by show k≤_;omega) (fun _=>by show lv≤_;omega) (fun _=>by show lv≤_;omega) (fun _ _=>by show n≤_;omega) (fun _ _=>by show n≤_;omega)
 rw [sameC_V h] at this
 exact this

structure Dflt (c:CG):Prop where
 k:c.k≤9223372036854775807
 m:∀ i,(c.P i).m≤9223372036854775807
 l:∀ i k,(c.P i).ln k≤9223372036854775807
 o1:∀ i,c.k≤i→(c.P i).m=0
 o2:∀ i k,(c.P i).m≤k→(c.P i).ln k=0
 o3:∀ i k j,(c.P i).ln k≤j→(c.P i).g k j=0
theorem Dflt.small {c:CG} (h:Dflt c) (hs:smallC c=true):c.k≤1000000∧(∀ i,(c.P i).m≤1000000)∧∀ i k,(c.P i).ln k≤1000000:=by
 unfold smallC at hs
 rw [Bool.and_eq_true,decide_eq_true_eq,evry_iff] at hs
 have hm:∀ i,(c.P i).m≤40∧∀ k,(c.P i).ln k≤80:=fun i=>by
  by_cases q:i<c.k
  ·have:=hs.2 i q
   unfold smallE at this
   rw [Bool.and_eq_true,decide_eq_true_eq,evry_iff] at this
   refine ⟨this.1,fun k=>?_⟩
   by_cases q2:k<(c.P i).m
   ·exact of_decide_eq_true (this.2 k q2)
   ·rw [h.o2 i k (by omega)];omega
  ·have h0:=h.o1 i (by omega)
   exact ⟨by omega,fun k=>by rw [h.o2 i k (by omega)];omega⟩
 exact ⟨by omega,fun i=>by have:=(hm i).1;omega,fun i k=>by have:=(hm i).2 k;omega⟩
theorem ciOk_st {p:PD} {c:CG} (h:ciOk p c=true):St p c.lv c.ex:=by
 unfold ciOk at h
 rw [Bool.and_eq_true,Bool.and_eq_true] at h
 exact stB_iff.1 h.1.1
theorem ciOk_part {p:PD} {c:CG} (h:ciOk p c=true) {i:Nat} (hi:i<c.k):(c.P i).lv=c.lv∧(c.P i).sp=false∧eOk p (c.P i)=true:=by
 unfold ciOk at h
 rw [Bool.and_eq_true,evry_iff] at h
 have:=h.2 i hi
 unfold partOk at this
 simp only [Bool.not_eq_true',Bool.or_eq_false_iff,decide_eq_false_iff_not,ne_eq,Decidable.not_not] at this
 refine ⟨this.1.1,this.1.2,?_⟩
 cases q:eOk p (c.P i) with
 | true=>rfl
 | false=>rw [q] at this;exact absurd this.2 (by decide)
theorem eOk_rows {p:PD} {e:EG} {n lv:Nat} (hn:p.n=(n:Int)) (hl:e.lv=(lv:Int)) (hs:e.sp=false) (h:eOk p e=true):e.m=lv∧∀ k,k<lv→e.ln k=n∧∀ j,j<n→e.g k j<modQ p lv k:=by
 unfold eOk elOk at h
 rw [hl,hs,Int.toNat_natCast] at h
 rw [Bool.and_eq_true,Bool.and_eq_true,evry_iff,decide_eq_true_eq] at h
 obtain ⟨⟨_,h2⟩,h3⟩:=h
 have hm:e.m=lv:=h2
 refine ⟨hm,fun k hk=>?_⟩
 have h4:=h3 k (by omega)
 rw [rowOk_eq hn] at h4
 simp only [Bool.not_eq_true',Bool.or_eq_false_iff,decide_eq_false_iff_not,ne_eq,Decidable.not_not] at h4
 refine ⟨h4.1,fun j hj=>?_⟩
 by_cases q:e.g k j<modQ p lv k
 ·exact q
 ·have:=hasI_spec (p:=fun j=>decide (modQ p lv k≤e.g k j)) (n:=e.ln k) |>.2 ⟨j,by omega,decide_eq_true (by omega)⟩
  rw [h4.2] at this;cases this
def partG (c:CG) (i r j:Nat):Nat:=(c.P i).g r j
theorem ci_vc {p:PD} {c:CG} {n lv:Nat} (hd:Dflt c) (hn:p.n=(n:Int)) (hl:c.lv=(lv:Int)) (hL:Lv p n lv) (h:ciOk p c=true):Vc p lv (partG c):=fun i r j=>by
 unfold partG
 have h0:=hL.q0 r
 by_cases q:i<c.k
 ·obtain ⟨h1,h2,h3⟩:=ciOk_part h q
  obtain ⟨h4,h5⟩:=eOk_rows hn (h1.trans hl) h2 h3
  by_cases q2:r<lv
  ·obtain ⟨h6,h7⟩:=h5 r q2
   by_cases q3:j<n
   ·exact h7 j q3
   ·rw [hd.o3 i r j (by omega)];exact h0
  ·rw [hd.o3 i r j (by rw [hd.o2 i r (by omega)];omega)];exact h0
 ·rw [hd.o3 i r j (by rw [hd.o2 i r (by rw [hd.o1 i (by omega)];omega)];omega)];exact h0
theorem ci_cvt {p:PD} {c:CG} {n lv k:Nat} (hn:p.n=(n:Int)) (hl:c.lv=(lv:Int)) (hk:c.k=k) (h:ciOk p c=true):Cvt (.fz true c.k 3 (fun i=>elD true (c.P i))) (.fz true k 3 (fun i=>elL true lv false lv n (partG c i))):=by
 subst hk
 refine Cvt.fz (.inl rfl) (fun i hi=>⟨rfl,fun j hj=>?_⟩)
 obtain ⟨h1,h2,h3⟩:=ciOk_part h hi
 obtain ⟨h4,h5⟩:=eOk_rows hn (h1.trans hl) h2 h3
 match j,hj with
 | 0,_=>exact .of_eq (by show D.val (.int .i64 (c.P i).lv)=_;rw [h1,hl];rfl)
 | 1,_=>exact .of_eq (by show D.val (.bool (c.P i).sp)=_;rw [h2];rfl)
 | 2,_=>
  show Cvt (.fz true (c.P i).m 1 _) (.fz true lv 1 _)
  rw [h4]
  refine Cvt.fz (.inl rfl) (fun r hr=>⟨rfl,fun j hj=>?_⟩)
  obtain rfl:j=0:=by omega
  show Cvt (.fz true ((c.P i).ln r) 1 _) (.fz true n 1 _)
  rw [(h5 r hr).1]
  exact .of_eq rfl
section
variable {p:PD} {n lv:Nat}
end
noncomputable abbrev oneD (n:Nat) (c:Int):D:=.fz true n Tryz.t2.size (setE (fun _=>valL (Value.int .i64 0).cells.toList) (Int.toNat 0) 0 (D.val (.int .i64 c)).cellL)
noncomputable abbrev twoD (n:Nat) (c d:Int):D:=.fz true n Tryz.t2.size (setE (setE (fun _=>valL (Value.int .i64 0).cells.toList) (Int.toNat 0) 0 (D.val (.int .i64 c)).cellL) (Int.toNat 0) 0 (D.val (.int .i64 d)).cellL)
theorem one_f (c:Int):setE (fun _=>valL (Value.int .i64 0).cells.toList) (Int.toNat 0) 0 (D.val (.int .i64 c)).cellL=fun j=>[.val (.int .i64 (constX c j))]:=by
 funext e
 unfold setE constX
 by_cases q:e=0
 ·subst q;rfl
 ·rw [if_neg (show ¬ e=Int.toNat 0 from q),if_neg q];rfl
theorem two_f (c d:Int):setE (setE (fun _=>valL (Value.int .i64 0).cells.toList) (Int.toNat 0) 0 (D.val (.int .i64 c)).cellL) (Int.toNat 0) 0 (D.val (.int .i64 d)).cellL=fun j=>[.val (.int .i64 (constX d j))]:=by
 rw [one_f]
 funext e
 unfold setE constX
 by_cases q:e=0
 ·subst q;rfl
 ·rw [if_neg (show ¬ e=Int.toNat 0 from q)]
  show [D.val (.int .i64 (if e=0 then c else 0))]=[D.val (.int .i64 (if e=0 then d else 0))]
  rw [if_neg q,if_neg q]
theorem one_eq (n:Nat) (c:Int):oneD n c=intsD true n (constX c):=by unfold oneD;rw [one_f];rfl
theorem two_eq (n:Nat) (c d:Int):twoD n c d=intsD true n (constX d):=by unfold twoD;rw [two_f];rfl
instance (n:Nat) (c:Int):OldD (oneD n c):=by rw [one_eq];infer_instance
instance (n:Nat) (c d:Int):OldD (twoD n c d):=by rw [two_eq];infer_instance

abbrev elM (lv:Nat) (sp:Bool) (k M:Nat):List D:=[.val (.int .i64 (lv:Int)),.val (.bool sp),.sl k 1 M]
abbrev u32M (M n:Nat) (g:Nat→Nat→Nat):Box:=.mat 23 22 M M 1 n (fun k j=>[.val (.int .u32 ((g k j:Nat):Int))])

def sclV (p:PD) (lv:Nat) (b:Nat→Nat) (g:Nat→Nat→Nat) (k j:Nat):Nat:=g k j*b k % modQ p lv k

abbrev zeroC:List D:=[.val (.int .i64 0),.val (.int .i64 0),.val (.slice none 0 0)]
abbrev cgR (lv ex k n:Nat) (A:Nat→Nat→Nat→Nat):CG:=⟨lv,ex,k,fun i=>⟨lv,false,lv,fun _=>n,A i⟩⟩
theorem ciOk_V {p:PD} {n lv ex k:Nat} (h:Cv p n lv ex) (hk:k=2∨k=3) {A:Nat→Nat→Nat→Nat} (hA:Vc p lv A):ciOk p (cgR lv ex k n A)=true:=
 ciOk_4 (stB_iff.2 h.st) hk fun i _=>by
  unfold partOk eOk
  rw [show elOk p (lv:Int) false lv (fun _=>n) (A i)=true from elOk_valid h.lv (hA i)]
  simp
theorem invV_lt {a q:Nat} (h:0<q):invV a q<q:=by
 unfold invV
 split
 ·exact resI_lt h
 ·exact h

instance fi115:FI Tryz.prog 115 Tryz.f115:=⟨Tryz.func115,Tryz.call115⟩
instance fi179:FI Tryz.prog 179 Tryz.f179:=⟨Tryz.func179,Tryz.call179⟩
instance fi46:FI Tryz.prog 46 Tryz.f46:=⟨Tryz.func46,Tryz.call46⟩
instance fi109:FI Tryz.prog 109 Tryz.f109:=⟨Tryz.func109,Tryz.call109⟩
theorem den_elder3 {P:Program} {f:FuncId} {x y z u:Value} (h:∀ w:World,Calls P f #[x,y,z] w fun e w'=>e = .returned u∧Below w.heap.size w w'):Den P f [.val x,.val y,.val z] (.val u):=fun Zc w i args hZ hi hH ha=>by
 obtain ⟨hl,hr⟩:=ha
 match args,hl with
 | [a,b,c],_=>
  have e1:=rep_val (hr 0 (by simp))
  have e2:=rep_val (hr 1 (by simp))
  have e3:=rep_val (hr 2 (by simp))
  change a=x at e1
  change b=y at e2
  change c=z at e3
  subst e1 e2 e3
  refine (h w).mono fun e w' ⟨he,hb⟩=>?_
  have hi':∀ k,i k=none:=fun k=>hi k (by simp [Hs.keys])
  exact ⟨u,i,fun _=>False,he,Kept.of_below hb _,fun b hb=>hb.elim,fun k hk=>by simp [Hs.keys] at hk,fun k _ _=>hi' k,fun k B b hm=>by simp at hm,fun k B hm=>by simp at hm,⟨fun k B hm=>by simp at hm,fun k k' B B' b hm=>by simp at hm⟩,.val _ _⟩
theorem pModulus_den (p:PD) (hp:PFit p) (lv:Int) (ex:Nat) (hst:St p lv (ex:Int)):Den Tryz.prog 46 [.agg (parL true p),.val (.int .i64 (ex:Int))] (.tup [.val (.int .i64 ((p.prime ^ ex:Nat):Int)),.val (.int .i64 0)]):=by
 refine den_intro (fn:=Tryz.f46) rfl rfl rfl rfl rfl ?_
 obtain ⟨n,hn,n4,n32⟩:=good_n hst.good
 have g:=hst.good
 have e1:=hst.e1
 have e2:=hst.e2
 have p2:=hp.power2
 have hd:n=4∨n=8∨n=16∨n=32:=by
  rcases g.1 with q | q | q | q<;>(simp only [PD.par] at q;omega)
 have hpl:PlainOk n p.prime (ex:Int):=by
  obtain ⟨a,b,c,d,e,f⟩:=g.2.2.2.2.2.2.1
  simp only [PD.par] at a b c d e f
  rw [hn,Int.toNat_natCast] at d
  exact ⟨a,b,c,d,e1,by rw [Int.toNat_natCast];exact Nat.le_trans (Nat.pow_le_pow_right (by omega) (by omega)) f⟩
 have hd3:Den Tryz.prog 109 [.val (.int .i64 p.n),.val (.int .u32 (p.prime:Int)),.val (.int .i64 (ex:Int))] (.val (.int .i64 ((p.prime ^ ex:Nat):Int))):=by
  rw [hn]
  refine den_elder3 fun w=>?_
  have:=ppower_walk n p.prime (ex:Int) w hd hp.prime (by omega) (by omega)
  rw [plainV_pos hpl,Int.toNat_natCast] at this
  exact this
 refine go ?_
 refine r_call (pcheck_den p hp) ?_
 rw [show errI (goodB p)=0 by rw [goodB_iff.2 g];rfl]
 refine go ?_
 rw [decide_eq_false (show ¬ ex<1 by omega),decide_eq_false (show ¬ p.power<(ex:Int) by omega)]
 refine c_no ?_
 refine go ?_
 refine r_call hd3 ?_
 refine go ?_
 refine fin ?_
 exact cv

theorem balI_in {a n:Nat} (hn:n≤2147483647) (ha:a<n) : -1073741824≤balI a n∧balI a n≤1073741824:=by
 unfold balI
 split<;>omega
theorem bal_mul {b:Int} {t:Nat} (hb : -1073741824≤b∧b≤1073741824) (ht:t≤2147483647) : -4611686018427387904≤b*(t:Int)∧b*(t:Int)≤4611686018427387904:=by
 have h1:b*(t:Int)≤1073741824*(t:Int):=Int.mul_le_mul_of_nonneg_right hb.2 (by omega)
 have h2:(-1073741824)*(t:Int)≤b*(t:Int):=Int.mul_le_mul_of_nonneg_right hb.1 (by omega)
 omega
def nearI (b q t a:Nat):Int:=balI (a*b % q) q*(t:Int)
theorem nearI_in {b q t a:Nat} (h2:0<q) (hq:q≤2147483647) (ht:t≤2147483647) : -4611686018427387904≤nearI b q t a∧nearI b q t a≤4611686018427387904:=bal_mul (balI_in hq (Nat.mod_lt _ h2)) ht
def lowB (p:PD) (lv q k:Nat):Nat:=invV (resI (q:Int) (modQ p lv k)) (modQ p lv k)
def downV (p:PD) (lv b q t:Nat) (g:Nat→Nat→Nat):Nat→Nat→Nat:=sclV p lv (lowB p lv q) (subV p lv g (intV p lv (fun j=>nearI b q t (g lv j))))

instance fi182:FI Tryz.prog 182 Tryz.f182:=⟨Tryz.func182,Tryz.call182⟩
instance fi181:FI Tryz.prog 181 Tryz.f181:=⟨Tryz.func181,Tryz.call181⟩
instance fi154:FI Tryz.prog 154 Tryz.f154:=⟨Tryz.func154,Tryz.call154⟩
instance fi153:FI Tryz.prog 153 Tryz.f153:=⟨Tryz.func153,Tryz.call153⟩
instance fi88:FI Tryz.prog 88 Tryz.f88:=⟨Tryz.func88,Tryz.call88⟩
instance fi87:FI Tryz.prog 87 Tryz.f87:=⟨Tryz.func87,Tryz.call87⟩
instance fi52:FI Tryz.prog 52 Tryz.f52:=⟨Tryz.func52,Tryz.call52⟩
instance fi122:FI Tryz.prog 122 Tryz.f122:=⟨Tryz.func122,Tryz.call122⟩
def sumV (p:PD) (lv:Nat) (z:Int) (ga gb:Nat→Nat→Nat) (i j:Nat):Nat:=(ga i j+gb i j*resI z (modQ p lv i)) % modQ p lv i
theorem vg_sum {p:PD} {n lv:Nat} (h:Lv p n lv) (z:Int) (A B:Nat→Nat→Nat):Vg p lv (sumV p lv z A B):=fun r j=>Nat.mod_lt _ (h.q0 r)
theorem FrD.el {k n:Nat} {F:Nat→List D} (lv:Nat) (sp:Bool):FrD k n F (.agg [.val (.int .i64 (lv:Int)),.val (.bool sp),.sl k 1 n]) (.agg [.val (.int .i64 (lv:Int)),.val (.bool sp),.fz false n 1 F]):=.agg1 (.id rfl) (.agg1 (.id rfl) (.agg1 (.sl (Nat.le_refl _)) .agg0))
theorem r09sum_own (p:PD) (n lv:Nat) (sp:Bool) (h:Lv p n lv) (ga gb:Nat→Nat→Nat) (z:Int) (hz : -9223372036854775808≤z∧z≤9223372036854775807) (ha:Vg p lv ga) (hb:Vg p lv gb):DenH Tryz.prog 182 [.agg (parL true p),.agg (elL true lv sp (modN p lv sp) n ga),.agg (elL true lv sp (modN p lv sp) n gb),.val (.int .i64 z)] [] (.agg (elM lv sp 1900 (modN p lv sp))) [] [(1900,u32M (modN p lv sp) n (sumV p lv z ga gb))]:=by
 refine den_intro (fn:=Tryz.f182) rfl rfl rfl rfl rfl ?_
 have hN:NatIs p.n n:=h.n
 have h32:=h.n32
 have h4:=h.n4
 have l1:=h.l1
 have l2:=h.l2
 have l24:=h.vp.len2
 have hm:=modQ_in h.vp h.sp h.l2
 have hM:modN p lv sp≤1001:=by unfold modN;split<;>omega
 obtain ⟨M,hMM⟩:∃ M,M=modN p lv sp:=⟨_,rfl⟩
 rw [← hMM] at hM ⊢
 refine go ?_
 have hmod:=r09Moduli_den p lv sp h.l2 (by omega)
 rw [← hMM] at hmod
 refine r_call hmod ?_
 refine go ?_
 refine c_nilcellM 1009 2 1900 23 22 1 n (fun k j=>[.val (.int .u32 ((sumV p lv z ga gb k j:Nat):Int))]) ?_
 refine c_up M (fun i=>[(11,.val (.int .i64 (i:Nat)))]) (fun i=>[(1009,some (.lit 35 [.val (.int .i64 (lv:Int)),.val (.bool sp),.sl 1900 1 i])),(1900,some (.mat 23 22 i i 1 n (fun k j=>[.val (.int .u32 ((sumV p lv z ga gb k j:Nat):Int))])))]) (fun i hi=>?_)
 refine go ?_
 have hq:=hm i
 refine c_if (fun h3=>?_) (fun h3=>?_)
 ·refine go ?_
  refine c_nil 12 1901 22 1 (fun j=>[.val (.int .u32 ((sumV p lv z ga gb i j:Nat):Int))]) ?_
  refine c_up n (fun j=>[(12,.sl 1901 1 j),(13,.val (.int .i64 (j:Nat)))]) (fun j=>[(1901,some (.arr 22 j 1 (fun j=>[.val (.int .u32 ((sumV p lv z ga gb i j:Nat):Int))])))]) (fun j hj=>?_)
  have hr:=resI_lt (x:=z) (show 0<modQ p lv i by omega)
  have ha':=ha i j
  have hb':=hb i j
  have hp:gb i j*resI z (modQ p lv i)≤2147483647*2147483647:=Nat.mul_le_mul (by omega) (by omega)
  have hs:sumV p lv z ga gb i j<modQ p lv i:=vg_sum h z ga gb i j
  unfold sumV at hs
  refine go ?_
  refine c_if (fun h4=>?_) (fun h4=>?_)
  ·refine go ?_
   refine r_callO (r09residue_den z (modQ p lv i) (by omega) (by omega) hz) ?_
   refine go ?_
   refine ⟨h4,?_⟩
   refine sub_arr (1000+72) (fun j=>[.val (.int .u32 ((sumV p lv z ga gb i j:Nat):Int))]) (appF_snoc rfl) (fun _=>rfl) ?_
   refine sub_toL [37] (1000+72) 1901 ?_
   exact sub
  ·obtain rfl:j=n:=by omega
   refine go ?_
   refine ⟨h3,?_⟩
   refine sub_mat (1000+77) (fun k j=>[.val (.int .u32 ((sumV p lv z ga gb k j:Nat):Int))]) (putG_snoc (fun _ _=>rfl)) (fun _ _=>rfl) ?_
   refine sub_toL [74] (1000+77) 1900 ?_
   exact sub
 ·obtain rfl:i=M:=by omega
  refine go ?_
  exact finN
theorem r09sum_den (p:PD) (n lv:Nat) (sp:Bool) (h:Lv p n lv) (ga gb:Nat→Nat→Nat) (z:Int) (hz : -9223372036854775808≤z∧z≤9223372036854775807) (ha:Vg p lv ga) (hb:Vg p lv gb):Den Tryz.prog 182 [.agg (parL true p),.agg (elL true lv sp (modN p lv sp) n ga),.agg (elL true lv sp (modN p lv sp) n gb),.val (.int .i64 z)] (.agg (elL false lv sp (modN p lv sp) n (sumV p lv z ga gb))):=
 (r09sum_own p n lv sp h ga gb z hz ha hb).frozen (by have:=h.l1;unfold modN;split<;>omega) (FrD.el lv sp)
theorem r09two_den (p:PD) (n lv:Nat) (sp:Bool) (h:Lv p n lv) (ga gb:Nat→Nat→Nat) (ha:Vg p lv ga) (hb:Vg p lv gb):Den Tryz.prog 181 [.agg (parL true p),.agg (elL true lv sp (modN p lv sp) n ga),.agg (elL true lv sp (modN p lv sp) n gb)] (.val (.bool true)):=by
 refine den_intro (fn:=Tryz.f181) rfl rfl rfl rfl rfl ?_
 have h32:=h.n32
 have l1:=h.l2
 have l2:=h.vp.len2
 have hM:modN p lv sp≤1000000:=by unfold modN;split<;>omega
 have c1:=r09Check_den0 p h.vp h.sp (lv:Int) sp (modN p lv sp) (fun _=>n) ga (fun _=>by omega) hM
 have c2:=r09Check_den0 p h.vp h.sp (lv:Int) sp (modN p lv sp) (fun _=>n) gb (fun _=>by omega) hM
 rw [elOk_valid (sp:=sp) h ha] at c1
 rw [elOk_valid (sp:=sp) h hb] at c2
 refine go ?_
 refine r_call c1 ?_
 refine go ?_
 refine g_callM (hl:=fun hb=>r_call c2 (run_fin rfl)) (h:=?_)
 refine go ?_
 refine fin ?_
 rw [show (decide ((0:Nat)=0) && decide ((0:Nat)=0) && decide (lv=lv) && sp == sp)=true by simp]
 exact cv
theorem r09Sub_own (p:PD) (n lv:Nat) (sp:Bool) (h:Lv p n lv) (ga gb:Nat→Nat→Nat) (ha:Vg p lv ga) (hb:Vg p lv gb):DenH Tryz.prog 154 [.agg (parL true p),.agg (elL true lv sp (modN p lv sp) n ga),.agg (elL true lv sp (modN p lv sp) n gb)] [] (.tup [.agg (elM lv sp 1017 (modN p lv sp)),.val (.int .i64 0)]) [] [(1017,u32M (modN p lv sp) n (sumV p lv (-1) ga gb))]:=by
 refine den_intro (fn:=Tryz.f154) rfl rfl rfl rfl rfl ?_
 refine go ?_
 refine r_call (r09two_den p n lv sp h ga gb ha hb) ?_
 refine go ?_
 refine c_no ?_
 refine go ?_
 refine r_callN (r09sum_own p n lv sp h ga gb (-1) (by omega) ha hb) (r':=.agg (elM lv sp 1017 (modN p lv sp))) rfl ?_
 refine go ?_
 exact finN
theorem r13Sub_own (p:PD) (n lv:Nat) (sp:Bool) (h:Lv p n lv) (ga gb:Nat→Nat→Nat) (ha:Vg p lv ga) (hb:Vg p lv gb):DenH Tryz.prog 88 [.agg (parL true p),.agg (elL true lv sp (modN p lv sp) n ga),.agg (elL true lv sp (modN p lv sp) n gb)] [] (.agg (elM lv sp 1013 (modN p lv sp))) [] [(1013,u32M (modN p lv sp) n (sumV p lv (-1) ga gb))]:=by
 refine den_intro (fn:=Tryz.f88) rfl rfl rfl rfl rfl ?_
 refine go ?_
 refine r_callN (r09Sub_own p n lv sp h ga gb ha hb) (r':=.tup [.agg (elM lv sp 1013 (modN p lv sp)),.val (.int .i64 0)]) rfl ?_
 refine go ?_
 exact finN
theorem r09Zero_den (p:PD) (n lv:Nat) (sp:Bool) (h:Lv p n lv):Den Tryz.prog 116 [.agg (parL true p),.val (.int .i64 (lv:Int)),.val (.bool sp),zerosD n] (.tup [.agg (elL false lv sp (modN p lv sp) n (fun _ _=>0)),.val (.int .i64 0)]):=by
 have:=r09FromInts_den p n lv sp h (fun _=>0) (fun _=>by omega)
 rw [resI_f] at this
 exact this
theorem sumV_0 {p:PD} {lv:Nat} {z:Int} {g:Nat→Nat→Nat}:sumV p lv z (fun _ _=>0) g=mulIntV p lv z g:=by
 funext i j
 unfold sumV mulIntV
 rw [Nat.zero_add]
theorem r09MulInt_den (p:PD) (n lv:Nat) (sp:Bool) (h:Lv p n lv) (g:Nat→Nat→Nat) (z:Int) (hz : -9223372036854775808≤z∧z≤9223372036854775807) (hg:Vg p lv g):Den Tryz.prog 153 [.agg (parL true p),.agg (elL true lv sp (modN p lv sp) n g),.val (.int .i64 z)] (.tup [.agg (elL false lv sp (modN p lv sp) n (mulIntV p lv z g)),.val (.int .i64 0)]):=by
 refine den_intro (fn:=Tryz.f153) rfl rfl rfl rfl rfl ?_
 have hN:NatIs p.n n:=h.n
 have h32:=h.n32
 have l1:=h.l2
 have l2:=h.vp.len2
 have hM:modN p lv sp≤1000000:=by unfold modN;split<;>omega
 have c1:=r09Check_den0 p h.vp h.sp (lv:Int) sp (modN p lv sp) (fun _=>n) g (fun _=>by omega) hM
 rw [elOk_valid (sp:=sp) h hg] at c1
 have hs:=r09sum_den p n lv sp h (fun _ _=>0) g z hz (fun r _=>h.q0 r) hg
 rw [sumV_0] at hs
 refine go ?_
 refine r_call c1 ?_
 refine go ?_
 refine r_call (r09Zero_den p n lv sp h) ?_
 refine go ?_
 refine r_call hs ?_
 refine go ?_
 refine fin ?_
 exact cv
theorem r13Scale_den (p:PD) (n lv:Nat) (sp:Bool) (h:Lv p n lv) (g:Nat→Nat→Nat) (z:Int) (hz : -9223372036854775808≤z∧z≤9223372036854775807) (hg:Vg p lv g):Den Tryz.prog 87 [.agg (parL true p),.agg (elL true lv sp (modN p lv sp) n g),.val (.int .i64 z)] (.agg (elL false lv sp (modN p lv sp) n (mulIntV p lv z g))):=by
 refine den_intro (fn:=Tryz.f87) rfl rfl rfl rfl rfl ?_
 refine go ?_
 refine r_call (r09MulInt_den p n lv sp h g z hz hg) ?_
 refine go ?_
 refine fin ?_
 exact cv

theorem rgeach2_own (p:PD) (n lv:Nat) (sp:Bool) (hn:p.n=(n:Int)) (h0:0<n) (h32:n≤32) (h1:1≤lv) (h2:lv≤p.chain.length) (h24:p.chain.length≤1000) (hq:∀ k,modQ p lv k<4294967296) {fl:FuncId} {fn:Func} [FI Tryz.prog fl fn] (l1 l2:List D) [OldDL l1] [OldDL l2] (g:Nat→Nat→Nat)
  (hfill:∀ k,k<modN p lv sp→DenH Tryz.prog fl [.val (.int .i64 (k:Int)),.val (.int .u64 ((modQ p lv k:Nat):Int)),.sl 0 1 n,.fptr true l1,.fptr true l2] [(0,rowB n fun _=>0)] (.tup []) [(0,rowB n (g k))] []) :
  DenH Tryz.prog 125 [.fptr true (parL true p),.val (.int .i64 (lv:Int)),.val (.bool sp),.clo fl [.fptr true l1,.fptr true l2]] [] (.agg (elM lv sp 1937 (modN p lv sp))) [] [(1937,u32M (modN p lv sp) n g)]:=by
 have hN:NatIs p.n n:=hn▸NatIs.cast n
 refine den_intro (fn:=Tryz.f125) rfl rfl rfl rfl rfl ?_
 refine go ?_
 refine r_callO (rgmoduli_den _ lv sp) ?_
 refine go ?_
 refine c_nilcellM 1009 2 1937 23 22 1 n (fun k j=>[.val (.int .u32 ((g k j:Nat):Int))]) ?_
 refine c_range (α:=Empty) [1004,1007,1008,1009] (moduli1_itr _ lv sp h1 h2) _ (modL_len _ lv sp) (fun k=>[.val (.int .i64 (k:Nat)),.val (.int .u32 ((modQ p lv k:Nat):Int))]) (fun k hk=>modL_at _ lv sp hk)
  (fun k=>[(109,some (.lit 35 [.val (.int .i64 (lv:Int)),.val (.bool sp),.sl 1937 1 k])),(1937,some (.mat 23 22 k k 1 n (fun k j=>[.val (.int .u32 ((g k j:Nat):Int))]))),(108,some (.lit 35 [.val (.int .i64 0),.val (.bool false),.val (.slice none 0 0)])),(107,some (.lit 163 [.clo fl [.fptr true l1,.fptr true l2]])),(104,some (.lit 147 [.fptr true (parL true p)]))])
  (fun _=>[]) (fun _=>False) (fun _=>.ret) (fun _=>True) trivial (fun k l hk _=>?_) (fun _=>?_) (fun y=>y.elim)
 ·have hq1:=hq k
  have hM:modN p lv sp≤1001:=by unfold modN;split<;>omega
  refine go ?_
  refine r_callM (1000+26) (hfill k hk) ?_
  refine c_end (by kernel_rfl) ?_
  refine go ?_
  refine ⟨trivial,?_⟩
  refine sub_mat (1000+37) (fun k j=>[.val (.int .u32 ((g k j:Nat):Int))]) (putG_snoc (fun _ _=>rfl)) (fun _ _=>rfl) ?_
  refine sub_toE (1000+37) 1937 ?_
  exact sub
 ·refine go ?_
  exact finN
theorem rgSub_own (p:PD) (n lv:Nat) (sp:Bool) (h:Lv p n lv) (ga gb:Nat→Nat→Nat) (ha:Vg p lv ga) (hb:Vg p lv gb):DenH Tryz.prog 80 [.agg (parL true p),.agg (elL true lv sp (modN p lv sp) n ga),.agg (elL true lv sp (modN p lv sp) n gb)] [] (.tup [.agg (elM lv sp 1019 (modN p lv sp)),.val (.int .i64 0)]) [] [(1019,u32M (modN p lv sp) n (fun i j=>(ga i j+modQ p lv i - gb i j) % modQ p lv i))]:=by
 refine den_intro (fn:=Tryz.f80) rfl rfl rfl rfl rfl ?_
 have h32:=h.n32
 have l2:=h.vp.len2
 have hm:=modQ_in h.vp h.sp h.l2
 have hM:modN p lv sp≤1001:=by have:=h.l2;unfold modN;split<;>omega
 refine go ?_
 refine r_call (rgalike_den p n lv sp h ga gb ha hb) ?_
 refine go ?_
 refine c_no ?_
 refine go ?_
 refine r_callN (rgeach2_own p n lv sp h.n (by have:=h.n4;omega) h32 h.l1 h.l2 (by omega) (fun k=>by have:=hm k;omega) (elL true lv sp (modN p lv sp) n ga) (elL true lv sp (modN p lv sp) n gb) (fun i j=>(ga i j+modQ p lv i - gb i j) % modQ p lv i) (fun k hk=>rgSub1_den k (modQ p lv k) n lv (modN p lv sp) sp ga gb hk hM h32 (by have:=hm k;omega) (by have:=hm k;omega) (fun i j=>by have:=ha i j;have:=hm i;omega) (fun i j=>by have:=hb i j;have:=hm i;omega) (fun j=>by have:=hb k j;omega))) (r':=.agg (elM lv sp 1019 (modN p lv sp))) rfl ?_
 refine go ?_
 exact finN

theorem sameC_a {a b:CG} (h:(decide (a.lv≠b.lv) || decide (a.ex≠b.ex) || decide (a.k≠b.k))=true):sameC a b=false:=by
 unfold sameC
 by_cases q1:a.lv=b.lv
 ·by_cases q2:a.ex=b.ex
  ·by_cases q3:a.k=b.k
   ·simp [q1,q2,q3] at h
   ·simp [q3]
  ·simp [q2]
 ·simp [q1]
theorem sameC_b {a b:CG} (h:(decide (a.lv≠b.lv) || decide (a.ex≠b.ex) || decide (a.k≠b.k))=false):a.k=b.k∧sameC a b=evry (fun i=>sameE (a.P i) (b.P i)) a.k:=by
 by_cases q1:a.lv=b.lv
 ·by_cases q2:a.ex=b.ex
  ·by_cases q3:a.k=b.k
   ·refine ⟨q3,?_⟩
    unfold sameC;rw [q1,q2,q3];simp
   ·simp [q3] at h
  ·simp [q2] at h
 ·simp [q1] at h
theorem r14Same_den (a b:CG) (hk:a.k≤1000000) (hk':b.k≤1000000) (hm:∀ i,(a.P i).m≤1000000) (hm':∀ i,(b.P i).m≤1000000) (hl:∀ i k,(a.P i).ln k≤1000000) (hl':∀ i k,(b.P i).ln k≤1000000):Den Tryz.prog 19 [.agg (ciD true a),.agg (ciD true b)] (.val (.bool (sameC a b))):=by
 refine den_intro (fn:=Tryz.f19) rfl rfl rfl rfl rfl ?_
 refine go ?_
 refine c_ifB (fun h1=>?_) (fun h1=>?_)
 ·refine go ?_
  refine fin ?_
  rw [sameC_a h1]
  exact cv
 ·obtain ⟨qk,hE⟩:=sameC_b h1
  refine go ?_
  refine c_down (fun j=>a.k - j) (fun j=>j≤a.k∧∀ i,i<j→sameE (a.P i) (b.P i)=true) (fun j:Nat=>[(5,.val (.int .i64 (j:Int)))]) (fun _=>[]) 0 (fun j ⟨hj,hp⟩=>?_) ⟨by omega,fun e he=>by omega⟩
  refine go ?_
  refine c_if (fun h3=>?_) (fun h3=>?_)
  ·have h3':j<b.k:=by omega
   refine go ?_
   refine r_call (r09Same_den (a.P j) (b.P j) (hm j) (hm' j) (hl j) (hl' j)) ?_
   refine go ?_
   refine c_ifB (fun h4=>?_) (fun h4=>?_)
   ·refine go ?_
    refine fin ?_
    rw [hE,evry_no (f:=fun i=>sameE (a.P i) (b.P i)) h3 (by simpa using h4)]
    exact cv
   ·refine go ?_
    refine ⟨j+1,⟨by omega,fun k hk=>?_⟩,by omega,?_⟩
    ·by_cases q:k<j
     ·exact hp k q
     ·obtain rfl:k=j:=by omega
      simpa using h4
    ·exact sub
  ·refine go ?_
   obtain rfl:j=a.k:=by omega
   refine fin ?_
   rw [hE,(evry_iff (f:=fun i=>sameE (a.P i) (b.P i))).2 hp]
   exact cv

instance fi117:FI Tryz.prog 117 Tryz.f117:=⟨Tryz.func117,Tryz.call117⟩
instance fi53:FI Tryz.prog 53 Tryz.f53:=⟨Tryz.func53,Tryz.call53⟩
theorem r09Add_den (p:PD) (n lv:Nat) (sp:Bool) (h:Lv p n lv) (ga gb:Nat→Nat→Nat) (ha:Vg p lv ga) (hb:Vg p lv gb):Den Tryz.prog 117 [.agg (parL true p),.agg (elL true lv sp (modN p lv sp) n ga),.agg (elL true lv sp (modN p lv sp) n gb)] (.tup [.agg (elL false lv sp (modN p lv sp) n (sumV p lv 1 ga gb)),.val (.int .i64 0)]):=by
 refine den_intro (fn:=Tryz.f117) rfl rfl rfl rfl rfl ?_
 refine go ?_
 refine r_call (r09two_den p n lv sp h ga gb ha hb) ?_
 refine go ?_
 refine c_no ?_
 refine go ?_
 refine r_call (r09sum_den p n lv sp h ga gb 1 (by omega) ha hb) ?_
 refine go ?_
 refine fin ?_
 exact cv
theorem r13Add_den (p:PD) (n lv:Nat) (sp:Bool) (h:Lv p n lv) (ga gb:Nat→Nat→Nat) (ha:Vg p lv ga) (hb:Vg p lv gb):Den Tryz.prog 53 [.agg (parL true p),.agg (elL true lv sp (modN p lv sp) n ga),.agg (elL true lv sp (modN p lv sp) n gb)] (.agg (elL false lv sp (modN p lv sp) n (sumV p lv 1 ga gb))):=by
 refine den_intro (fn:=Tryz.f53) rfl rfl rfl rfl rfl ?_
 refine go ?_
 refine r_call (r09Add_den p n lv sp h ga gb ha hb) ?_
 refine go ?_
 refine fin ?_
 exact cv

theorem r18Balanced_den (n q:Nat) (g:Nat→Nat) (hn:n≤1000000) (h2:2≤q) (hq:q≤2147483647) (hg:∀ j,g j<q):Den Tryz.prog 122 [u32sF true n g,.val (.int .u32 (q:Int))] (intsD false n (fun j=>balI (g j) q)):=by
 refine den_intro (fn:=Tryz.f122) rfl rfl rfl rfl rfl ?_
 refine go ?_
 refine c_nil 5 1900 2 1 (fun j=>[.val (.int .i64 (balI (g j) q))]) ?_
 refine c_up n (fun j=>[(5,.sl 1900 1 j),(6,.val (.int .i64 (j:Nat)))]) (fun j=>[(1900,some (.arr 2 j 1 (fun j=>[.val (.int .i64 (balI (g j) q))])))]) (fun j hj=>?_)
 refine go ?_
 refine c_if (fun h3=>?_) (fun h3=>?_)
 ·refine go ?_
  refine r_callO (r01Balanced_den (g j) q h2 hq (hg j)) ?_
  refine go ?_
  refine ⟨h3,?_⟩
  refine sub_arr (1000+27) (fun j=>[.val (.int .i64 (balI (g j) q))]) (appF_snoc rfl) (fun _=>rfl) ?_
  refine sub_toL [24] (1000+27) 1900 ?_
  exact sub
 ·obtain rfl:j=n:=by omega
  refine go ?_
  refine fin_freeze 1900 ?_
  refine fin ?_
  exact cv

instance fi56:FI Tryz.prog 56 Tryz.f56:=⟨Tryz.func56,Tryz.call56⟩
theorem r14CheckV_den (p:PD) (n lv ex k:Nat) (h:Cv p n lv ex) (hk:k=2∨k=3) (A:Nat→Nat→Nat→Nat) (hA:Vc p lv A):Den Tryz.prog 61 [.agg (parL true p),.agg (ciV true lv ex k n A)] (.val (.int .i64 0)):=by
 have h32:=h.lv.n32
 have l2:=h.lv.l2
 have l24:=h.lv.vp.len2
 have:=r14Check_den p h.fit (cgR lv ex k n A) (by show k≤_;omega) (fun _ _=>by show n≤_;omega) (fun _=>by show lv≤_;omega)
 rw [ciOk_V h hk hA] at this
 exact this

def pre18 (p:PD) (lv b q t:Nat) (g:Nat→Nat→Nat):Nat→Nat→Nat:=sumV p lv (-1) g (mulIntV p lv (t:Int) (intV p lv (fun j=>balI (g lv j*b % q) q)))
def div18 (p:PD) (lv b q t:Nat) (g:Nat→Nat→Nat):Nat→Nat→Nat:=sclV p lv (lowB p lv q) (pre18 p lv b q t g)
def fill2 (F G:Nat→Nat→Nat) (j i r x:Nat):Nat:=if r<j∨(r=j∧x<i) then F r x else G r x
theorem fill2_0 {F G:Nat→Nat→Nat} {r x:Nat}:fill2 F G 0 0 r x=G r x:=by unfold fill2;rw [if_neg (by omega)]
theorem fill2_at {F G:Nat→Nat→Nat} {i x:Nat}:fill2 F G i x i x=G i x:=by unfold fill2;rw [if_neg (by omega)]
theorem fill2_all {F G:Nat→Nat→Nat} {i r x:Nat} (h:r<i):fill2 F G i 0 r x=F r x:=by unfold fill2;rw [if_pos (by omega)]
theorem fill2_row {F G:Nat→Nat→Nat} {i n r x:Nat} (h:x<n):fill2 F G i n r x=fill2 F G (i+1) 0 r x:=by
 unfold fill2
 by_cases q:r<i∨(r=i∧x<n)
 ·rw [if_pos q,if_pos (by omega)]
 ·rw [if_neg q,if_neg (by omega)]
theorem fill2_set {F G:Nat→Nat→Nat} {i x v:Nat} (hv:v=F i x) (r y:Nat):setG (fun k j=>[.val (.int .u32 ((fill2 F G i x k j:Nat):Int))]) i (setE (fun j=>[.val (.int .u32 ((fill2 F G i x i j:Nat):Int))]) x 0 [.val (.int .u32 ((v:Nat):Int))]) r y=[.val (.int .u32 ((fill2 F G i (x+1) r y:Nat):Int))]:=by
 subst hv
 unfold setG
 by_cases q:r=i
 ·subst q
  rw [if_pos rfl]
  unfold setE
  by_cases q2:y=x
  ·subst q2
   rw [if_pos rfl]
   unfold fill2
   rw [if_pos (by omega)];rfl
  ·rw [if_neg q2]
   have:fill2 F G r x r y=fill2 F G r (x+1) r y:=by
    unfold fill2
    by_cases q3:y<x
    ·rw [if_pos (by omega),if_pos (by omega)]
    ·rw [if_neg (by omega),if_neg (by omega)]
   show [D.val (.int .u32 ((fill2 F G r x r y:Nat):Int))]=_
   rw [this]
 ·rw [if_neg q]
  have:fill2 F G i x r y=fill2 F G i (x+1) r y:=by
   unfold fill2
   by_cases q3:r<i
   ·rw [if_pos (by omega),if_pos (by omega)]
   ·rw [if_neg (by omega),if_neg (by omega)]
  show [D.val (.int .u32 ((fill2 F G i x r y:Nat):Int))]=_
  rw [this]

theorem r18DividedS_den (p:PD) (n lv t:Nat) (hL:Lv p n lv) (ht:t≤2147483647) (g:Nat→Nat→Nat) (hg:Vg p lv g) (q b:Nat) (hq:q=modQ p lv lv) (hb:b=invV (resI (t:Int) q) q) :
  Den Tryz.prog 56 [.agg (parL true p),.agg (elL true lv true (lv+1) n g),.val (.int .u32 (q:Int)),.val (.int .i64 (t:Int))] (.agg (elL false lv false lv n (div18 p lv b q t g))):=by
 refine den_intro (fn:=Tryz.f56) rfl rfl rfl rfl rfl ?_
 have hN:NatIs p.n n:=hL.n
 have h32:=hL.n32
 have h4:=hL.n4
 have h1:=hL.l1
 have l2:=hL.l2
 have l24:=hL.vp.len2
 have hm:=modQ_in hL.vp hL.sp hL.l2
 have hm':=modQ_in hL.vp hL.sp hL.l2
 have hq2:=hm lv
 rw [← hq] at hq2
 have hgl:=hg lv
 rw [← hq] at hgl
 have hvg:=hg
 have hblt:b<q:=by rw [hb];exact invV_lt (by omega)
 have htl:=resI_lt (x:=(t:Int)) (show 0<q by omega)
 have hbal:=r18Balanced_den n q (fun j=>g lv j*b % q) (by omega) (by omega) hq2.2.1 (fun j=>Nat.mod_lt _ (by omega))
 have hbi:∀ j, -9223372036854775808≤balI (g lv j*b % q) q∧balI (g lv j*b % q) q≤9223372036854775807:=fun j=>by
  have:=balI_in hq2.2.1 (Nat.mod_lt (g lv j*b) (show 0<q by omega))
  omega
 have hinv:=r01Inverse_den (resI (t:Int) q) q (by omega) hq2.2.1 htl
 rw [← hb] at hinv
 have hof:Den Tryz.prog 51 [.agg (parL true p),.agg [.val (.int .i64 (lv:Int)),.val (.bool false),.val (.slice none 0 0)],intsD true n (fun j=>balI (g lv j*b % q) q)] (.agg (elL false lv false lv n (intV p lv (fun j=>balI (g lv j*b % q) q)))):=r13Of_den p n lv false hL (.val (.slice none 0 0)) rfl _ hbi
 have hsc:Den Tryz.prog 87 [.agg (parL true p),.agg (elL true lv false lv n (intV p lv (fun j=>balI (g lv j*b % q) q))),.val (.int .i64 (t:Int))] (.agg (elL false lv false lv n (mulIntV p lv (t:Int) (intV p lv (fun j=>balI (g lv j*b % q) q))))):=r13Scale_den p n lv false hL _ (t:Int) (by omega) (vg_int hL _)
 have hsu:DenH Tryz.prog 88 [.agg (parL true p),.agg (elL true lv false lv n (fun k j=>g (0+k) j)),.agg (elL true lv false lv n (mulIntV p lv (t:Int) (intV p lv (fun j=>balI (g lv j*b % q) q))))] [] (.agg (elM lv false 1013 lv)) [] [(1013,u32M lv n (pre18 p lv b q t g))]:=by
  rw [show (fun k j=>g (0+k) j)=g by funext k j;rw [Nat.zero_add]]
  exact r13Sub_own p n lv false hL g _ hvg (vg_mulInt hL _ _)
 refine go ?_
 refine r_call (r01Of_den (t:Int) q (by omega) hq2.2.1 (by omega)) ?_
 refine go ?_
 refine r_call hinv ?_
 refine go ?_
 refine c_nil 14 1900 22 1 (fun j=>[.val (.int .u32 ((g lv j*b % q:Nat):Int))]) ?_
 refine c_up n (fun j=>[(14,.sl 1900 1 j),(15,.val (.int .i64 (j:Nat)))]) (fun j=>[(1900,some (.arr 22 j 1 (fun j=>[.val (.int .u32 ((g lv j*b % q:Nat):Int))])))]) (fun j hj=>?_)
 refine go ?_
 refine c_if (fun h3=>?_) (fun h3=>?_)
 ·refine go ?_
  refine r_callO (r01Mul_den (g lv j) b q (by omega) hq2.2.1 (hgl j) hblt) ?_
  refine go ?_
  refine ⟨h3,?_⟩
  refine sub_arr (1000+67) (fun j=>[.val (.int .u32 ((g lv j*b % q:Nat):Int))]) (appF_snoc rfl) (fun _=>rfl) ?_
  refine sub_toL [64] (1000+67) 1900 ?_
  exact sub
 obtain rfl:j=n:=by omega
 refine c_freeze 1900 ?_
 refine c_slot 14 (u32sF false j (fun j=>g lv j*b % q)) ?_
 refine go ?_
 refine c_no ?_
 refine go ?_
 refine r_call hbal ?_
 refine go ?_
 refine r_call hof ?_
 refine go ?_
 refine r_call hsc ?_
 refine go ?_
 refine r_callN hsu (r':=.agg (elM lv false 1096 lv)) rfl ?_
 refine go ?_
 have hGq:∀ i x,pre18 p lv b q t g i x<modQ p lv i:=vg_sum hL _ _ _
 have hF:∀ i x,pre18 p lv b q t g i x*lowB p lv q i % modQ p lv i=div18 p lv b q t g i x:=fun i x=>rfl
 clear hbal hof hsc hsu hinv hbi hgl hvg hg
 obtain ⟨G,hG⟩:∃ G,pre18 p lv b q t g=G:=⟨_,rfl⟩
 obtain ⟨F,hFF⟩:∃ F,div18 p lv b q t g=F:=⟨_,rfl⟩
 rw [hG] at hGq hF ⊢
 rw [hFF] at hF ⊢
 refine c_mat 1096 (fun k j=>[.val (.int .u32 ((fill2 F G 0 0 k j:Nat):Int))]) (fun e x he hx=>by rw [fill2_0]) (fun _ _=>rfl) ?_
 refine c_up lv (fun i=>[(21,.val (.int .i64 (i:Nat)))]) (fun i=>[(1096,some (.mat 23 22 lv lv 1 j (fun k x=>[.val (.int .u32 ((fill2 F G i 0 k x:Nat):Int))])))]) (fun i hi=>?_)
 refine go ?_
 have hqi:=hm' i
 refine c_if (fun h5=>?_) (fun h5=>?_)
 ·have h5':i<lv:=by omega
  have e:modQ p lv i=p.chain.getD i 0:=by unfold modQ;rw [if_pos h5']
  have hof2:=r01Of_den (q:Int) (modQ p lv i) (by omega) (by omega) (by omega)
  have hinv2:=r01Inverse_den (resI (q:Int) (modQ p lv i)) (modQ p lv i) (by omega) (by omega) (resI_lt (by omega))
  have hlw:lowB p lv q i<modQ p lv i:=invV_lt (by omega)
  have hlb:invV (resI (q:Int) (modQ p lv i)) (modQ p lv i)=lowB p lv q i:=rfl
  rw [hlb] at hinv2
  rw [e] at hof2 hinv2
  refine go ?_
  refine r_callO hof2 ?_
  refine go ?_
  refine r_callO hinv2 ?_
  refine go ?_
  refine c_up j (fun x=>[(27,.val (.int .i64 (x:Nat)))]) (fun x=>[(1096,some (.mat 23 22 lv lv 1 j (fun k y=>[.val (.int .u32 ((fill2 F G i x k y:Nat):Int))])))]) (fun x hx=>?_)
  refine go ?_
  refine c_if (fun h6=>?_) (fun h6=>?_)
  ·have hmul:=r01Mul_den (fill2 F G i x i x) (lowB p lv q i) (modQ p lv i) (by omega) (by omega) (by rw [fill2_at];exact hGq i x) hlw
   rw [show fill2 F G i x i x*lowB p lv q i % modQ p lv i=F i x by rw [fill2_at];exact hF i x,e] at hmul
   refine go ?_
   refine r_callO hmul ?_
   refine go ?_
   refine ⟨h6,?_⟩
   refine sub_mat 1096 (fun k y=>[.val (.int .u32 ((fill2 F G i (x+1) k y:Nat):Int))]) (fun r y _ _=>fill2_set rfl r y) (fun _ _=>rfl) ?_
   exact sub
  ·obtain rfl:x=j:=by omega
   refine go ?_
   refine ⟨h5',?_⟩
   refine sub_mat 1096 (n:=lv) (n2:=x) (g:=fun k y=>[.val (.int .u32 ((fill2 F G i x k y:Nat):Int))]) (fun k y=>[.val (.int .u32 ((fill2 F G (i+1) 0 k y:Nat):Int))]) (fun r y _ hy=>by rw [fill2_row (r:=r) hy]) (fun _ _=>rfl) ?_
   exact sub
 ·obtain rfl:i=lv:=by omega
  refine go ?_
  refine fin_mat 1096 (n:=i) (n2:=j) (g:=fun k y=>[.val (.int .u32 ((fill2 F G i 0 k y:Nat):Int))]) (fun k y=>[.val (.int .u32 ((F k y:Nat):Int))]) (fun r y hr _=>by rw [fill2_all hr]) (fun _ _=>rfl) ?_
  refine fin_freezeM 1096 ?_
  refine fin ?_
  exact cv

theorem resI_small {a q:Nat} (h:a<q):resI (a:Int) q=a:=by
 unfold resI
 rw [Int.emod_eq_of_lt (by omega) (by omega)]
 exact Int.toNat_natCast a
theorem resI_mul {x t:Int} {q:Nat} (h:0<q):resI x q*resI t q % q=resI (x*t) q:=by
 have e:((resI x q*resI t q % q:Nat):Int)=((resI (x*t) q:Nat):Int):=by
  rw [Int.natCast_emod,Int.natCast_mul,resI_cast h,resI_cast h,resI_cast h,← Int.mul_emod]
 exact Int.ofNat.inj e
theorem resI_neg1 {q:Nat} (h:2≤q):resI (-1) q=q - 1:=by
 have h1:=resI_cast (x:= -1) (show 0<q by omega)
 have h2:(-1:Int) % (q:Int)=(q:Int) - 1:=by
  rw [← Int.add_emod_right,Int.emod_eq_of_lt (by omega) (by omega)];omega
 omega
theorem sub_m1 {a b q:Nat} (hb:b<q) (h:2≤q):(a+b*(q - 1)) % q=(a+q - b) % q:=by
 have e:a+b*(q - 1)+q=a+q - b+b*q:=by
  have h1:b*(q - 1)+b=b*q:=by
   have:=Nat.mul_succ b (q - 1)
   rw [show (q - 1).succ=q by omega] at this
   omega
  omega
 have h2:(a+b*(q - 1)) % q=(a+b*(q - 1)+q) % q:=(Nat.add_mod_right _ _).symm
 rw [h2,e,Nat.add_mul_mod_self_right]

theorem r14SameV_den (lv ex k n:Nat) (hlv:lv≤1000) (hk:k≤3) (hn:n≤32) (A B:Nat→Nat→Nat→Nat) (h:∀ i,i<k→∀ r,r<lv→∀ j,j<n→A i r j=B i r j):Den Tryz.prog 19 [.agg (ciV true lv ex k n A),.agg (ciV true lv ex k n B)] (.val (.bool true)):=by
 have:=r14Same_den (cgV lv ex k n A) (cgV lv ex k n B) (by show k≤_;omega) (by show k≤_;omega) (fun _=>by show lv≤_;omega) (fun _=>by show lv≤_;omega) (fun _ _=>by show n≤_;omega) (fun _ _=>by show n≤_;omega)
 rw [sameC_V h] at this
 exact this

theorem DenH.res {P:Program} {f:FuncId} {ds:List D} {hs hs' rs:Hs} {r r':D} (h:DenH P f ds hs r hs' rs) (hc:Cvt r r'):DenH P f ds hs r' hs' rs:=fun Zc w i args hZ hi hH ha=>
 (h Zc w i args hZ hi hH ha).mono fun e w' ⟨v,i',Zn',p0,p1,p2,p3,p4,p5,pfl,p6,p7⟩=>⟨v,i',Zn',p0,p1,p2,p3,p4,p5,pfl,p6,hc.cv (fun b hb=>.inr hb) p7⟩
theorem zero_res {o:Bool} {n:Nat} {x:Int} {G:Nat→Nat→Nat→Nat}:Cvt (.tup [.agg zeroC,.val (.int .i64 x)]) (.tup [.agg (ciV o 0 0 0 n G),.val (.int .i64 x)]):=
 Cvt.tup (.cons (Cvt.agg (.cons (.of_eq rfl) (.cons (.of_eq rfl) (.cons (Cvt.nil _ _ _) .nil)))) (.cons (.of_eq rfl) .nil))

theorem rgRestrict1G_den (i q n lv lv' M:Nat) (sp:Bool) (g:Nat→Nat→Nat) (hi:i<lv') (hM:i<M) (hM':M≤1001) (hl:lv'≤1001) (hn:n≤32) :
  DenH Tryz.prog 179 [.val (.int .i64 (i:Int)),.val (.int .u64 (q:Int)),.sl 0 1 n,.fptr true [.val (.int .i64 (lv':Int))],.fptr true (elL true lv sp M n g)] [(0,rowB n fun _=>0)] (.tup []) [(0,rowB n (g i))] []:=by
 refine den_intro (fn:=Tryz.f179) rfl rfl rfl rfl rfl ?_
 refine go ?_
 refine fin_arr 0 (fun j=>[.val (.int .u32 ((g i j:Nat):Int))]) (fun e he=>?_) (fun _=>rfl) ?_
 ·unfold cpF
  rw [show e.blt (min n n)=true from Nat.ble_eq_true_of_le (by omega)]
 refine finH ?_
 exact cv
theorem rgRestrict1S_den (i q n lv lv' M:Nat) (sp:Bool) (g:Nat→Nat→Nat) (hi:i=lv') (hM:lv<M) (hM':M≤1001) (hl:lv'≤1001) (hn:n≤32) :
  DenH Tryz.prog 179 [.val (.int .i64 (i:Int)),.val (.int .u64 (q:Int)),.sl 0 1 n,.fptr true [.val (.int .i64 (lv':Int))],.fptr true (elL true lv sp M n g)] [(0,rowB n fun _=>0)] (.tup []) [(0,rowB n (g lv))] []:=by
 refine den_intro (fn:=Tryz.f179) rfl rfl rfl rfl rfl ?_
 refine go ?_
 refine fin_arr 0 (fun j=>[.val (.int .u32 ((g lv j:Nat):Int))]) (fun e he=>?_) (fun _=>rfl) ?_
 ·unfold cpF
  rw [show e.blt (min n n)=true from Nat.ble_eq_true_of_le (by omega)]
 refine finH ?_
 exact cv
def resV (lv lv':Nat) (g:Nat→Nat→Nat) (i:Nat):Nat→Nat:=g (if i<lv' then i else lv)
theorem rgRestrictS_den (p:PD) (n lv lv':Nat) (h:Lv p n lv) (h1:1≤lv') (hl:lv'≤lv) (g:Nat→Nat→Nat) (hg:Vg p lv g) :
  Den Tryz.prog 115 [.agg (parL true p),.agg (elL true lv true (modN p lv true) n g),.val (.int .i64 (lv':Int)),.val (.bool true)] (.tup [.agg (elL false lv' true (modN p lv' true) n (resV lv lv' g)),.val (.int .i64 0)]):=by
 refine den_intro (fn:=Tryz.f115) rfl rfl rfl rfl rfl ?_
 have h32:=h.n32
 have l2:=h.l2
 have l24:=h.vp.len2
 have hM1:modN p lv true=lv+1:=rfl
 have hM2:modN p lv' true=lv'+1:=rfl
 have hm:=modQ_in h.vp h.sp (show lv'≤p.chain.length by omega)
 have hck:=rgCheck_den p h.vp (lv:Int) true (modN p lv true) (fun _=>n) g (fun _=>by omega) (by omega)
 rw [show elOk p (lv:Int) true (modN p lv true) (fun _=>n) g=true from elOk_valid (sp:=true) h hg] at hck
 rw [hM1,hM2] at *
 refine go ?_
 refine r_call hck ?_
 refine go ?_
 rw [decide_eq_false (show ¬ lv'<1 by omega),decide_eq_false (show ¬ lv<lv' by omega)]
 refine c_no ?_
 refine go ?_
 refine r_call (rgeach2_den p n lv' true h.n h32 h1 (by omega) (by omega) (fun k=>by have:=hm k;omega) [.val (.int .i64 (lv':Int))] (elL true lv true (lv+1) n g) (resV lv lv' g) (fun k hk=>?_)) ?_
 ·have hk:k<lv'+1:=hk
  by_cases q:k=lv'
  ·have e:resV lv lv' g k=g lv:=by unfold resV;rw [if_neg (by omega)]
   rw [e]
   exact rgRestrict1S_den k (modQ p lv' k) n lv lv' (lv+1) true g q (by omega) (by omega) (by omega) h32
  ·have e:resV lv lv' g k=g k:=by unfold resV;rw [if_pos (by omega)]
   rw [e]
   exact rgRestrict1G_den k (modQ p lv' k) n lv lv' (lv+1) true g (by omega) (by omega) (by omega) (by omega) h32
 refine go ?_
 refine fin ?_
 exact cv
theorem vg_res {p:PD} {lv lv':Nat} (hl:lv'≤lv) {g:Nat→Nat→Nat} (hg:Vg p lv g):Vg p lv' (resV lv lv' g):=fun r x=>by
 unfold resV modQ
 by_cases q:r<lv'
 ·rw [if_pos q,if_pos q]
  have:=hg r x
  unfold modQ at this
  rw [if_pos (show r<lv by omega)] at this
  exact this
 ·rw [if_neg q,if_neg q]
  have:=hg lv x
  unfold modQ at this
  rw [if_neg (show ¬ lv<lv by omega)] at this
  exact this
theorem rgRestrictN_den (p:PD) (n lv:Nat) (h:Lv p n lv) (g:Nat→Nat→Nat) (hg:Vg p lv g) :
  Den Tryz.prog 115 [.agg (parL true p),.agg (elL true lv true (modN p lv true) n g),.val (.int .i64 (lv:Int)),.val (.bool false)] (.tup [.agg (elL false lv false lv n g),.val (.int .i64 0)]):=by
 refine den_intro (fn:=Tryz.f115) rfl rfl rfl rfl rfl ?_
 have h32:=h.n32
 have l1:=h.l1
 have l2:=h.l2
 have l24:=h.vp.len2
 have hM1:modN p lv true=lv+1:=rfl
 have hm:=modQ_in h.vp h.sp h.l2
 have hck:=rgCheck_den p h.vp (lv:Int) true (modN p lv true) (fun _=>n) g (fun _=>by omega) (by omega)
 rw [show elOk p (lv:Int) true (modN p lv true) (fun _=>n) g=true from elOk_valid (sp:=true) h hg] at hck
 rw [hM1] at *
 refine go ?_
 refine r_call hck ?_
 refine go ?_
 rw [decide_eq_false (show ¬ lv<1 by omega),decide_eq_false (show ¬ lv<lv by omega)]
 refine c_no ?_
 refine go ?_
 refine r_call (rgeach2_den p n lv false h.n h32 l1 (by omega) (by omega) (fun k=>by have:=hm k;omega) [.val (.int .i64 (lv:Int))] (elL true lv true (lv+1) n g) g (fun k hk=>rgRestrict1G_den k (modQ p lv k) n lv lv (lv+1) true g hk (by have:k<lv:=hk;omega) (by omega) (by omega) h32)) ?_
 refine go ?_
 refine fin ?_
 exact cv

theorem r09RestrictS_den (p:PD) (n lv lv':Nat) (h:Lv p n lv) (h1:1≤lv') (hl:lv'≤lv) (g:Nat→Nat→Nat) (hg:Vg p lv g) :
  Den Tryz.prog 52 [.agg (parL true p),.agg (elL true lv true (modN p lv true) n g),.val (.int .i64 (lv':Int)),.val (.bool true)] (.tup [.agg (elL false lv' true (modN p lv' true) n (resV lv lv' g)),.val (.int .i64 0)]):=by
 refine den_intro (fn:=Tryz.f52) rfl rfl rfl rfl rfl ?_
 have h32:=h.n32
 have h4:=h.n4
 have l2:=h.l2
 have l24:=h.vp.len2
 have hM1:modN p lv true=lv+1:=rfl
 have hM2:modN p lv' true=lv'+1:=rfl
 have hck:=r09Check_den0 p h.vp h.sp (lv:Int) true (modN p lv true) (fun _=>n) g (fun _=>by omega) (by omega)
 rw [show elOk p (lv:Int) true (modN p lv true) (fun _=>n) g=true from elOk_valid (sp:=true) h hg] at hck
 rw [hM1,hM2] at *
 refine go ?_
 refine r_call hck ?_
 refine go ?_
 rw [decide_eq_false (show ¬ lv'<1 by omega),decide_eq_false (show ¬ lv<lv' by omega)]
 refine c_no ?_
 refine go ?_
 refine c_nilcellM 1010 2 1900 23 22 1 (0+n) (fun k j=>[.val (.int .u32 ((resV lv lv' g k j:Nat):Int))]) ?_
 refine c_up lv' (fun i=>[(11,.val (.int .i64 (i:Nat)))]) (fun i=>[(1010,some (.lit 35 [.val (.int .i64 (lv':Int)),.val (.bool true),.sl 1900 1 i])),(1900,some (.mat 23 22 i i 1 (0+n) (fun k j=>[.val (.int .u32 ((resV lv lv' g k j:Nat):Int))])))]) (fun i hi=>?_)
 refine go ?_
 refine c_if (fun h3=>?_) (fun h3=>?_)
 ·have h3':i<lv+1:=by omega
  have e:∀ x,g i x=resV lv lv' g i x:=fun x=>by unfold resV;rw [if_pos (by omega)]
  refine go ?_
  refine r_bsl0 1 (fun _=>[]) ?_
  refine go ?_
  refine ⟨h3,?_⟩
  refine sub_mat (1000+53) (fun k j=>[.val (.int .u32 ((resV lv lv' g k j:Nat):Int))]) (putG_snoc (f:=appF 0 (fun _=>[]) (fun j=>[.val (.int .u32 ((g i j:Nat):Int))])) (fun x _=>by show [D.val (.int .u32 ((g i x:Nat):Int))]=[D.val (.int .u32 ((resV lv lv' g i x:Nat):Int))];rw [e])) (fun _ _=>rfl) ?_
  refine sub_toL [44] (1000+53) 1900 ?_
  exact sub
 ·obtain rfl:i=lv':=by omega
  have e:∀ x,g lv x=resV lv i g i x:=fun x=>by unfold resV;rw [if_neg (by omega)]
  refine go ?_
  refine r_bsl0 1 (fun _=>[]) ?_
  refine go ?_
  refine fin_mat (1000+67) (fun k j=>[.val (.int .u32 ((resV lv i g k j:Nat):Int))]) (putG_snoc (f:=appF 0 (fun _=>[]) (fun j=>[.val (.int .u32 ((g lv j:Nat):Int))])) (fun x _=>by show [D.val (.int .u32 ((g lv x:Nat):Int))]=[D.val (.int .u32 ((resV lv i g i x:Nat):Int))];rw [e])) (fun _ _=>rfl) ?_
  refine fin_freezeM (1000+67) ?_
  rw [Nat.zero_add n]
  refine fin ?_
  exact cv

theorem den_elder0 {P:Program} {f:FuncId} {u:Value} (h:∀ w:World,Calls P f #[] w fun e w'=>e = .returned u∧Below w.heap.size w w'):Den P f [] (.val u):=fun Zc w i args hZ hi hH ha=>by
 obtain ⟨hl,hr⟩:=ha
 match args,hl with
 | [],_=>
  refine (h w).mono fun e w' ⟨he,hb⟩=>?_
  have hi':∀ k,i k=none:=fun k=>hi k (by simp [Hs.keys])
  exact ⟨u,i,fun _=>False,he,Kept.of_below hb _,fun b hb=>hb.elim,fun k hk=>by simp [Hs.keys] at hk,fun k _ _=>hi' k,fun k B b hm=>by simp at hm,fun k B hm=>by simp at hm,⟨fun k B hm=>by simp at hm,fun k k' B B' b hm=>by simp at hm⟩,.val _ _⟩
end Go.Proofs.YtmjildbdkecolaaGreat
