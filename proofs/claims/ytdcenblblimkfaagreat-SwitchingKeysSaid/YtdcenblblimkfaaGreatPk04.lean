/- What passes the strong tests to 2, 7 and 61 is a prime: the finite checks, and what they mean
What a partition of the library's sort leaves, and what a round of it makes of sorted parts. No walk. -/
import Derived.Test.YtdcenblblimkfaaGreatPk02
import Derived.Test.YtdcenblblimkfaaGreatRows
import Derived.Sort.LotD3
import Derived.Sort.LotA
import Derived.Sort.LotB
set_option linter.unusedSimpArgs false
set_option linter.unusedVariables false
set_option linter.unnecessarySimpa false
set_option linter.unusedSectionVars false
namespace Go.Proofs.YtdcenblblimkfaaGreat

def One3 (d q:Nat):Prop:=One 2 d q∧One 7 d q∧One 61 d q
def one3 (d q:Nat):Bool:=cond (Nat.beq (2 ^ d % q) (1 % q)) (cond (Nat.beq (7 ^ d % q) (1 % q)) (Nat.beq (61 ^ d % q) (1 % q)) false) false
theorem one3_of {d q:Nat} (h:One3 d q):one3 d q=true:=by
 unfold one3
 rw [(beq_iff _ _).2 h.1,(beq_iff _ _).2 h.2.1,(beq_iff _ _).2 h.2.2]
 rfl
theorem One3.dvd {e m f:Nat} (h:One3 e m) (hd:e∣f):One3 f m:=⟨h.1.dvd hd,h.2.1.dvd hd,h.2.2.dvd hd⟩

def sqn (n:Nat) (fuel:Nat):Nat→Bool:=Nat.rec (fun _=>false) (fun _ ih x=>cond (Nat.beq x (n - 1)) true (ih (x*x % n))) fuel
theorem sqn_spec {a n u:Nat}:∀ (f j i:Nat),j≤i→i<j+f→a ^ (u*2 ^ i) % n=n - 1→sqn n f (a ^ (u*2 ^ j) % n)=true
 | 0,j,i,h1,h2,_=>by omega
 | f+1,j,i,h1,h2,h=>by
  show cond (Nat.beq (a ^ (u*2 ^ j) % n) (n - 1)) true (sqn n f (a ^ (u*2 ^ j) % n*(a ^ (u*2 ^ j) % n) % n))=true
  by_cases q:a ^ (u*2 ^ j) % n=n - 1
  ·rw [(beq_iff _ _).2 q];rfl
  ·rw [beq_false q]
   have hj:j≠i:=fun e=>q (e▸h)
   have h3:=sqn_spec f (j+1) i (by omega) (by omega) h
   have e:a ^ (u*2 ^ (j+1)) % n=a ^ (u*2 ^ j) % n*(a ^ (u*2 ^ j) % n) % n:=by
    rw [Nat.pow_succ,← Nat.mul_assoc,Nat.pow_mul,Nat.pow_two,Nat.mul_mod]
   rw [e] at h3
   exact h3
def strB (a n:Nat):Bool:=cond (Nat.beq (pm n 32 a (oddp 32 (n - 1))) 1) true (sqn n 32 (pm n 32 a (oddp 32 (n - 1))))
theorem strB_of {a n u k:Nat} (hn:2≤n) (h31:n<2147483648) (e:n - 1=u*2 ^ k) (hu:u % 2=1) (h:Strong a n u k):strB a n=true:=by
 obtain ⟨ho,j,hj⟩:=oddp_spec 32 (n - 1) (by omega) (by omega)
 have eu:oddp 32 (n - 1)=u:=odd_unique (j:=j) (k:=k) ho hu (by rw [← hj,e])
 have hk:k<32:=by
  rcases Nat.lt_or_ge k 32 with q | q
  ·exact q
  ·have h1:2 ^ 32≤2 ^ k:=Nat.pow_le_pow_right (by omega) q
   have h2:=Nat.mul_le_mul_right (2 ^ k) (show 1≤u by omega)
   omega
 have hu32:u<2 ^ 32:=by
  have h1:1≤2 ^ k:=Nat.pow_pos (by omega)
  have h2:=Nat.mul_le_mul_left u h1
  omega
 unfold strB
 rw [eu,pm_spec _ _ _ _ hu32]
 by_cases q:a ^ u % n=1
 ·rw [(beq_iff _ _).2 q];rfl
 ·rw [beq_false q]
  rcases h with h | ⟨i,hi,h⟩
  ·exact absurd h q
  ·have:=sqn_spec (a:=a) (n:=n) (u:=u) 32 0 i (by omega) (by omega) h
   rw [Nat.pow_zero,Nat.mul_one] at this
   exact this
theorem Strong.one {a n u k:Nat} (hn:2≤n) (e:n - 1=u*2 ^ k) (h:Strong a n u k):One a (n - 1) n:=by
 rcases h with h | ⟨i,hi,h⟩
 ·have h1:One a u n:=by show _=_;rw [h,Nat.mod_eq_of_lt (by omega)]
  exact h1.dvd ⟨2 ^ k,e⟩
 ·have h1:=(minus_of hn (Nat.dvd_refl n) h).1
  have h2:One a (u*2 ^ (i+1)) n:=by
   show _=_
   rw [Nat.pow_succ,← Nat.mul_assoc,Nat.pow_mul,Nat.pow_two]
   obtain ⟨z,hz⟩:=Nat.dvd_of_mod_eq_zero h1
   have hp:1≤a ^ (u*2 ^ i):=by
    rcases Nat.eq_zero_or_pos (a ^ (u*2 ^ i)) with q | q
    ·rw [q] at h;rw [Nat.zero_mod] at h;omega
    ·exact q
   generalize a ^ (u*2 ^ i)=x at *
   refine one_of_dvd (Nat.mul_pos hp hp) ⟨z*(x - 1),?_⟩
   rw [← Nat.mul_assoc,← hz]
   obtain ⟨y,rfl⟩:∃ y,x=y+1:=⟨x - 1,by omega⟩
   rw [Nat.add_sub_cancel]
   simp only [Nat.mul_add,Nat.add_mul,Nat.mul_one,Nat.one_mul]
   omega
  refine h2.dvd ⟨2 ^ (k - (i+1)),?_⟩
  rw [e,Nat.mul_assoc,← Nat.pow_add]
  congr 2;omega

/-! ### How often the powers are squared until they are 1 -/
def sgf (p:Nat) (fuel:Nat):Nat→Nat:=Nat.rec (fun _=>0) (fun _ ih x=>cond (Nat.beq x 1) 0 (ih (x*x % p)+1)) fuel
theorem sgf_one (p f:Nat):sgf p f 1=0:=by cases f<;>rfl
theorem sgf_spec {p b i:Nat} (hp:2<p) (h:b ^ 2 ^ i % p=p - 1):∀ (d j f:Nat),j+d=i+1→d<f→sgf p f (b ^ 2 ^ j % p)=d
 | 0,j,f,e,hf=>by
  obtain rfl:j=i+1:=by omega
  have h1:b ^ 2 ^ (i+1) % p=1:=by
   rw [Nat.pow_succ,Nat.pow_mul,Nat.pow_two,Nat.mul_mod,h]
   obtain ⟨y,rfl⟩:∃ y,p=y+2:=⟨p - 2,by omega⟩
   rw [show y+2 - 1=y+1 from rfl,show (y+1)*(y+1)=(y+2)*y+1 from by simp only [Nat.mul_add,Nat.add_mul,Nat.mul_one,Nat.one_mul];omega,Nat.mul_add_mod]
   exact Nat.mod_eq_of_lt (by omega)
  rw [h1,sgf_one]
 | d+1,j,f,e,hf=>by
  obtain ⟨f,rfl⟩:∃ g,f=g+1:=⟨f - 1,by omega⟩
  have hne:b ^ 2 ^ j % p≠1:=fun q=>by
   have h1:b ^ 2 ^ i % p=1 % p:=by
    rw [show i=j+(i - j) from by omega,Nat.pow_add,Nat.pow_mul,Nat.pow_mod,q,Nat.one_pow]
   rw [h,Nat.mod_eq_of_lt (by omega)] at h1
   omega
  have ih:=sgf_spec hp h d (j+1) f (by omega) (by omega)
  have e1:b ^ 2 ^ (j+1) % p=b ^ 2 ^ j % p*(b ^ 2 ^ j % p) % p:=by rw [Nat.pow_succ,Nat.pow_mul,Nat.pow_two,Nat.mul_mod]
  rw [e1] at ih
  show cond (Nat.beq (b ^ 2 ^ j % p) 1) 0 (sgf p f (b ^ 2 ^ j % p*(b ^ 2 ^ j % p) % p)+1)=d+1
  rw [beq_false hne,cond_false,ih]
def sg1 (a p:Nat):Nat:=sgf p 33 (a ^ oddp 32 (p - 1) % p)
def sg (p:Nat):Nat:=(sg1 2 p*64+sg1 7 p)*64+sg1 61 p
theorem Strong.sg {a n u k:Nat} (hn:2≤n) (h31:n<2147483648) (ho:n % 2=1) (e:n - 1=u*2 ^ k) (hu:u % 2=1) (h:Strong a n u k):∃ d,∀ p,Pr p→p∣n→sg1 a p=d:=by
 have main:∀ p,Pr p→p∣n→2<p∧oddp 32 (p - 1) % 2=1∧Nat.gcd u (p - 1)∣oddp 32 (p - 1):=fun p hp hd=>by
  have h2:=hp.1
  have hle:=Nat.le_of_dvd (by omega) hd
  have h3:=dvd_odd hd ho
  obtain ⟨q1,j,hj⟩:=oddp_spec 32 (p - 1) (by omega) (by omega)
  refine ⟨by omega,q1,odd_dvd (dvd_odd (Nat.gcd_dvd_left _ _) hu) j ?_⟩
  rw [← hj]
  exact Nat.gcd_dvd_right _ _
 rcases h with h | ⟨i,hi,h⟩
 ·refine ⟨0,fun p hp hd=>?_⟩
  obtain ⟨q1,q2,q3⟩:=main p hp hd
  have h1:pone a false u n=true:=(beq_iff _ _).2 (by rw [h,Nat.mod_eq_of_lt (by omega)])
  have h2:a ^ oddp 32 (p - 1) % p=1 % p:=(beq_iff _ _).1 (hp.share_of hu hd h1 q2 q3)
  unfold sg1
  rw [h2,Nat.mod_eq_of_lt (by omega),sgf_one]
 ·have hk:k<32:=by
   rcases Nat.lt_or_ge k 32 with q | q
   ·exact q
   ·have h1:2 ^ 32≤2 ^ k:=Nat.pow_le_pow_right (by omega) q
    have h2:=Nat.mul_le_mul_right (2 ^ k) (show 1≤u by omega)
    omega
  refine ⟨i+1,fun p hp hd=>?_⟩
  obtain ⟨q1,q2,q3⟩:=main p hp hd
  have h1:pone (a ^ 2 ^ i) true u n=true:=(beq_iff _ _).2 (by
   rw [← Nat.pow_mul,Nat.mul_comm]
   exact (minus_of hn (Nat.dvd_refl n) h).1)
  have h2:=pone_minus (by omega) (hp.share_of hu hd h1 q2 q3)
  rw [← Nat.pow_mul,Nat.mul_comm,Nat.pow_mul] at h2
  have:=sgf_spec q1 h2 (i+1) 0 33 (by omega) (by omega)
  rw [Nat.pow_zero,Nat.pow_one] at this
  exact this

structure Psp (n:Nat):Prop where
 lo:1073741824<n
 hi:n<2147483648
 m8:n % 8=1
 cop:Nat.gcd n 915915=1
 s2:strB 2 n=true
 s7:strB 7 n=true
 s61:strB 61 n=true
 f:One3 (n - 1) n
 sig:∀ p q,Pr p→p∣n→Pr q→q∣n→sg p=sg q
def bad (n:Nat):Bool:=
 cond (Nat.beq (n % 8) 1) (cond (Nat.ble n 1073741824) true (cond (Nat.ble 2147483648 n) true (cond (Nat.beq (Nat.gcd n 915915) 1)
  (cond (strB 2 n) (cond (strB 7 n) (cond (strB 61 n) false true) true) true) true))) true
theorem Psp.no {n:Nat} (h:Psp n):bad n=false:=by
 unfold bad
 rw [(beq_iff _ _).2 h.m8,ble_false (Nat.not_le.2 h.lo),ble_false (Nat.not_le.2 h.hi),(beq_iff _ _).2 h.cop,h.s2,h.s7,h.s61]
 rfl
theorem Psp.odd {n d:Nat} (h:Psp n) (hd:d∣n):d % 2=1:=dvd_odd hd (by have:=h.m8;omega)
theorem Psp.copd {n d:Nat} (h:Psp n) (hd:d∣n):Nat.gcd d 915915=1:=by
 have h1:Nat.gcd d 915915∣Nat.gcd n 915915:=Nat.dvd_gcd (Nat.dvd_trans (Nat.gcd_dvd_left _ _) hd) (Nat.gcd_dvd_right _ _)
 rw [h.cop] at h1
 exact Nat.dvd_one.1 h1
theorem Psp.share {n r:Nat} (h:Psp n) (hr:Pr r) (hd:r∣n):One3 (Nat.gcd (n - 1) (r - 1)) r:=by
 have lo:=h.lo
 have key:∀ a,One a (n - 1) n→One a (Nat.gcd (n - 1) (r - 1)) r:=fun a h1=>by
  have h2:=h1.sub hd
  have h3:=h2.ndvd (by omega) hr.1
  exact One.gcd _ _ h2 (by show _ % r=1 % r;rw [hr.pow_pred h3,Nat.mod_eq_of_lt (by have:=hr.1;omega)])
 exact ⟨key _ h.f.1,key _ h.f.2.1,key _ h.f.2.2⟩

/-! ### A: a great prime divisor, and a small cofactor -/
def prodN (f:Nat→Nat) (n:Nat):Nat:=Nat.rec 1 (fun i ih=>f i*ih) n
theorem Pr.prodN {r:Nat} (hr:Pr r) (f:Nat→Nat):∀ n,r∣Go.Proofs.YtdcenblblimkfaaGreat.prodN f n→∃ i,i<n∧r∣f i
 | 0,h=>by
  have:=Nat.le_of_dvd Nat.one_pos h
  have:=hr.1
  omega
 | n+1,h=>by
  have h':r∣f n*Go.Proofs.YtdcenblblimkfaaGreat.prodN f n:=h
  rcases hr.mul h' with h1 | h1
  ·exact ⟨n,by omega,h1⟩
  ·obtain ⟨i,hi,hd⟩:=hr.prodN f n h1
   exact ⟨i,by omega,hd⟩
def facQ:Nat:=prodN (fun i=>prodN (fun j=>64*i+j+1) 64) 725
theorem facQ_no {r:Nat} (hr:Pr r) (h:46400<r):¬ r∣facQ:=fun hd=>by
 obtain ⟨i,hi,h1⟩:=hr.prodN _ _ hd
 obtain ⟨j,hj,h2⟩:=hr.prodN _ _ h1
 have:=Nat.le_of_dvd (by omega) h2
 omega
def restF (k h:Nat):Bool:=
 cond (Nat.ble h 46400) true (allB (fun m=>cond (Nat.beq m 0) true (cond (Nat.beq (h % m) 0) (bad (h / m*k)) true)) (h / 46401 / 64+1))
def smallF (k:Nat):Bool:=
 cond (Nat.beq (Nat.gcd k 915915) 1) (cond (Nat.beq k 1) true (
  let g:=Nat.gcd (2 ^ (k - 1) - 1) (7 ^ (k - 1) - 1)
  cond (Nat.beq g 0) false (cond (Nat.ble g 46400) true (
   let g:=Nat.gcd g (61 ^ (k - 1) - 1)
   cond (Nat.ble g 46400) true (restF k (g / Nat.gcd g facQ)))))) true
theorem one_val {a e r:Nat} (h:One a e r):r∣a ^ e - 1:=Nat.dvd_of_mod_eq_zero (Nat.sub_mod_eq_zero_of_mod_eq h)
theorem Psp.noA {n r k:Nat} (h:Psp n) (hr:Pr r) (hk:n=r*k) (hk2:2≤k) (hr3:46400<r) (hA:∀ i,i<23168→smallF (2*i+1)=true):False:=by
 have lo:=h.lo
 have hi:=h.hi
 have hd:r∣n:=⟨k,hk⟩
 have hkd:k∣n:=⟨r,by rw [hk,Nat.mul_comm]⟩
 have hko:=h.odd hkd
 have hk1:k≤46300:=by
  rcases Nat.lt_or_ge 46300 k with q | q
  ·have:=Nat.mul_le_mul (show 46401≤r from hr3) (show 46301≤k from q)
   omega
  ·exact q
 have hs:=hA (k / 2) (by omega)
 rw [show 2*(k / 2)+1=k from by omega] at hs
 have hg:=h.share hr hd
 have hcof:=share_cof hr.1 (by omega:1≤k) hk (Nat.dvd_refl (n - 1))
 have ho:=hg.dvd hcof
 have g1:r∣Nat.gcd (2 ^ (k - 1) - 1) (7 ^ (k - 1) - 1):=Nat.dvd_gcd (one_val ho.1) (one_val ho.2.1)
 have g2:r∣Nat.gcd (Nat.gcd (2 ^ (k - 1) - 1) (7 ^ (k - 1) - 1)) (61 ^ (k - 1) - 1):=Nat.dvd_gcd g1 (one_val ho.2.2)
 unfold smallF at hs
 rw [(beq_iff _ _).2 (h.copd hkd),beq_false (show k≠1 by omega)] at hs
 dsimp only at hs
 rw [cond_true,cond_false] at hs
 generalize Nat.gcd (2 ^ (k - 1) - 1) (7 ^ (k - 1) - 1)=G at *
 generalize hG2:Nat.gcd G (61 ^ (k - 1) - 1)=G2 at *
 by_cases hG:G=0
 ·subst hG
  exact absurd hs (by simp [Nat.beq])
 ·have hle:=Nat.le_of_dvd (by omega) g1
  rw [beq_false hG,cond_false,ble_false (by omega),cond_false] at hs
  have hG2p:0<G2:=by rw [← hG2];exact Nat.gcd_pos_of_pos_left _ (by omega)
  have hle2:=Nat.le_of_dvd hG2p g2
  rw [ble_false (by omega),cond_false] at hs
  have hrest:r∣G2 / Nat.gcd G2 facQ:=by
   have e:G2=Nat.gcd G2 facQ*(G2 / Nat.gcd G2 facQ):=(Nat.mul_div_cancel' (Nat.gcd_dvd_left _ _)).symm
   rw [e] at g2
   rcases hr.mul g2 with q | q
   ·exact absurd (Nat.dvd_trans q (Nat.gcd_dvd_right _ _)) (facQ_no hr hr3)
   ·exact q
  have hH:0<G2 / Nat.gcd G2 facQ:=Nat.div_pos (Nat.le_of_dvd hG2p (Nat.gcd_dvd_left _ _)) (Nat.gcd_pos_of_pos_left _ hG2p)
  generalize G2 / Nat.gcd G2 facQ=H at *
  have hleH:=Nat.le_of_dvd hH hrest
  unfold restF at hs
  rw [ble_false (by omega),cond_false] at hs
  obtain ⟨m',hm'⟩:=hrest
  have hm0:0<m':=by
   rcases Nat.eq_zero_or_pos m' with q | q
   ·subst q;rw [Nat.mul_zero] at hm';omega
   ·exact q
  have hmle:m'≤H / 46401:=by
   rw [Nat.le_div_iff_mul_le (by omega),hm',Nat.mul_comm]
   exact Nat.mul_le_mul_right _ (by omega)
  have:=allB_sound hs m' (by omega)
  rw [beq_false (by omega),cond_false,(beq_iff _ _).2 (Nat.mod_eq_zero_of_dvd ⟨r,by rw [hm',Nat.mul_comm]⟩),cond_true,
   show H / m'=r from by rw [hm'];exact Nat.mul_div_cancel _ hm0,← hk,h.no] at this
  exact absurd this (by simp)

/-! ### B: a prime divisor of middling size -/
def enumF (r g:Nat):Bool:=
 let c:=2147483648 / (r*g)+1 - (1073741824 / r) / g
 cond (Nat.ble c 64) (allN (fun k=>bad (r*(1+g*((1073741824 / r) / g+k)))) (c+1)) (allB (fun k=>bad (r*(1+g*((1073741824 / r) / g+k)))) (c / 64+1))
def tryF (r d:Nat):Bool:=cond (one3 d r) (enumF r d) true
def fullF (r:Nat):Bool:=allN (fun d=>cond (Nat.beq d 0) true (cond (Nat.beq ((r - 1) % d) 0) (cond (tryF r d) (tryF r ((r - 1) / d)) false) true)) 216
def facM:Nat:=prodN (fun i=>Nat.gcd (Nat.gcd (2 ^ (i+1) - 1) (7 ^ (i+1) - 1)) (61 ^ (i+1) - 1)) 215
def primesL:List Nat:=[2,3,5,7,11,13,17,19,23,29,31,37,41,43,47,53,59,61,67,71,73,79,83,89,97,101,103,107,109,113,127,131,137,139,149,151,157,163,167,173,179,181,191,193,197,199,211]
def noL (r:Nat):List Nat→Bool
 | []=>true
 | l::t=>cond (cond (Nat.beq ((r - 1) % l) 0) (one3 ((r - 1) / l) r) false) false (noL r t)
theorem noL_at {r l:Nat}:∀ {t:List Nat},noL r t=true→l∈t→(r - 1) % l=0→one3 ((r - 1) / l) r=false
 | [],_,h,_=>by cases h
 | x::t,h,hm,hl=>by
  unfold noL at h
  cases q:cond (Nat.beq ((r - 1) % x) 0) (one3 ((r - 1) / x) r) false with
  | true=>rw [q] at h;cases h
  | false=>
   rw [q,cond_false] at h
   rcases List.mem_cons.1 hm with rfl | e
   ·rw [(beq_iff _ _).2 hl,cond_true] at q;exact q
   ·exact noL_at h e hl
theorem primesL_all {d:Nat} (h:d<216) (h2:2≤d):∃ l,l∈primesL∧l∣d:=by
 have key:(List.range 216).all (fun d=>Nat.ble d 1 || primesL.any (fun l=>Nat.beq (d % l) 0))=true:=by decide +kernel
 have:=List.all_eq_true.1 key d (List.mem_range.2 h)
 rw [Bool.or_eq_true] at this
 rcases this with q | q
 ·have:=(ble_iff _ _).1 q;omega
 ·obtain ⟨l,h1,h3⟩:=List.any_eq_true.1 q
  exact ⟨l,h1,Nat.dvd_of_mod_eq_zero ((beq_iff _ _).1 h3)⟩
theorem primesL_pos:∀ l,l∈primesL→2≤l:=by decide
theorem prodN_dvd (f:Nat→Nat):∀ (n i:Nat),i<n→f i∣prodN f n
 | 0,i,h=>by omega
 | n+1,i,h=>by
  show f i∣f n*prodN f n
  rcases Nat.lt_or_ge i n with q | q
  ·exact Nat.dvd_trans (prodN_dvd f n i q) (Nat.dvd_mul_left _ _)
  ·obtain rfl:i=n:=by omega
   exact Nat.dvd_mul_right _ _
def midF (r:Nat):Bool:=
 cond (Nat.beq (2 ^ (r - 1) % r) 1) (cond (cond (Nat.beq (Nat.gcd r facM) 1) (noL r primesL) false) (tryF r (r - 1)) (fullF r)) true
theorem Psp.enum_no {n r g k:Nat} (h:Psp n) (hr:2≤r) (hg:0<g) (hk:n=r*(1+g*k)):enumF r g=false:=by
 have h1:=h.lo
 have h2:=h.hi
 cases he:enumF r g with
 | false=>rfl
 | true=>
  have a1:1073741824 / r≤g*k:=by
   have:1073741824 / r<1+g*k:=(Nat.div_lt_iff_lt_mul (by omega)).2 (by rw [Nat.mul_comm];omega)
   omega
  have a2:1073741824 / r / g≤k:=by
   have:=Nat.div_le_div_right (c:=g) a1
   rwa [Nat.mul_div_cancel_left _ hg] at this
  have a3:k≤2147483648 / (r*g):=by
   rw [Nat.le_div_iff_mul_le (Nat.mul_pos (by omega) hg)]
   have:r*(1+g*k)=r+k*(r*g):=by
    rw [Nat.mul_add,Nat.mul_one,← Nat.mul_assoc,Nat.mul_comm (r*g)]
   omega
  unfold enumF at he
  dsimp only at he
  have hh:bad (r*(1+g*(1073741824 / r / g+(k - 1073741824 / r / g))))=true:=by
   by_cases q:2147483648 / (r*g)+1 - (1073741824 / r) / g≤64
   ·rw [(ble_iff _ _).2 q,cond_true] at he
    exact allN_sound _ _ he (k - 1073741824 / r / g) (by omega)
   ·rw [ble_false q,cond_false] at he
    exact allB_sound he (k - 1073741824 / r / g) (by omega)
  rw [show 1073741824 / r / g+(k - 1073741824 / r / g)=k from by omega,← hk,h.no] at hh
  exact absurd hh (by simp)
theorem Psp.noB {n r:Nat} (h:Psp n) (hr:Pr r) (hd:r∣n) (hr1:3000<r) (hr3:r≤46400) (hm:midF r=true):False:=by
 have lo:=h.lo
 obtain ⟨k,hk⟩:=hd
 have hk0:1≤k:=by
  rcases Nat.eq_zero_or_pos k with q | q
  ·subst q;rw [Nat.mul_zero] at hk;omega
  ·exact q
 have hg:=h.share hr ⟨k,hk⟩
 have hcof:=share_cof hr.1 hk0 hk (Nat.dvd_refl (n - 1))
 have hgr:=Nat.gcd_dvd_right (n - 1) (r - 1)
 generalize Nat.gcd (n - 1) (r - 1)=g at *
 obtain ⟨d,hd⟩:=hgr
 have hd0:0<d:=by
  rcases Nat.eq_zero_or_pos d with q | q
  ·subst q;rw [Nat.mul_zero] at hd;omega
  ·exact q
 have hg0:0<g:=by
  rcases Nat.eq_zero_or_pos g with q | q
  ·subst q;rw [Nat.zero_mul] at hd;omega
  ·exact q
 obtain ⟨kk,hkk⟩:=hcof
 have en:=h.enum_no (k:=kk) hr.1 hg0 (by rw [← hkk,hk];congr 1;omega)
 have ht:tryF r g=false:=by
  unfold tryF
  rw [one3_of hg,cond_true,en]
 have h2:2 ^ (r - 1) % r=1:=by
  have:=(hg.dvd ⟨d,hd⟩).1
  have h':2 ^ (r - 1) % r=1 % r:=this
  rw [h',Nat.mod_eq_of_lt (by omega)]
 unfold midF at hm
 rw [(beq_iff _ _).2 h2,cond_true] at hm
 have hgne:g=r - 1→d=1:=fun e=>by
  have h4:g*1=g*d:=by omega
  exact (Nat.eq_of_mul_eq_mul_left hg0 h4).symm
 cases hc:cond (Nat.beq (Nat.gcd r facM) 1) (noL r primesL) false with
 | true=>
  rw [hc,cond_true] at hm
  have hc1:Nat.gcd r facM=1:=by
   cases q:Nat.beq (Nat.gcd r facM) 1 with
   | true=>exact (beq_iff _ _).1 q
   | false=>rw [q] at hc;cases hc
  rw [(beq_iff _ _).2 hc1,cond_true] at hc
  rcases Nat.lt_or_ge g 216 with q | q
  ·have h5:r∣Nat.gcd (Nat.gcd (2 ^ (g - 1+1) - 1) (7 ^ (g - 1+1) - 1)) (61 ^ (g - 1+1) - 1):=by
    rw [show g - 1+1=g from by omega]
    exact Nat.dvd_gcd (Nat.dvd_gcd (one_val hg.1) (one_val hg.2.1)) (one_val hg.2.2)
   have h6:=Nat.dvd_gcd (Nat.dvd_refl r) (Nat.dvd_trans h5 (show _∣facM from prodN_dvd (fun i=>Nat.gcd (Nat.gcd (2 ^ (i+1) - 1) (7 ^ (i+1) - 1)) (61 ^ (i+1) - 1)) 215 (g - 1) (by omega)))
   have h7:r∣1:=by rw [← hc1];exact h6
   have:=Nat.le_of_dvd Nat.one_pos h7
   omega
  ·have hd1:d<216:=by
    rcases Nat.lt_or_ge d 216 with h' | h'
    ·exact h'
    ·have:=Nat.mul_le_mul q h';omega
   rcases Nat.lt_or_ge 1 d with z | z
   ·obtain ⟨l,hl,d',hd'⟩:=primesL_all hd1 z
    have hl2:=primesL_pos l hl
    have e1:r - 1=l*(g*d'):=by rw [hd,hd',Nat.mul_left_comm]
    have:=noL_at hc hl (by rw [e1];exact Nat.mul_mod_right _ _)
    rw [show (r - 1) / l=g*d' from by rw [e1];exact Nat.mul_div_cancel_left _ (by omega),one3_of (hg.dvd ⟨d',rfl⟩)] at this
    cases this
   ·obtain rfl:d=1:=by omega
    rw [Nat.mul_one] at hd
    rw [hd,ht] at hm
    cases hm
 | false=>
  rw [hc,cond_false] at hm
  unfold fullF at hm
  rcases Nat.lt_or_ge g 216 with q | q
  ·have:=allN_sound _ 216 hm g q
   rw [beq_false (by omega),cond_false,(beq_iff _ _).2 (Nat.mod_eq_zero_of_dvd ⟨d,hd⟩),cond_true,ht] at this
   exact absurd this (by simp)
  ·have hd1:d<216:=by
    rcases Nat.lt_or_ge d 216 with h' | h'
    ·exact h'
    ·have:=Nat.mul_le_mul q h';omega
   have:=allN_sound _ 216 hm d hd1
   rw [beq_false (by omega),cond_false,(beq_iff _ _).2 (Nat.mod_eq_zero_of_dvd ⟨g,by rw [hd,Nat.mul_comm]⟩),cond_true,
    show (r - 1) / d=g from by rw [hd];exact Nat.mul_div_cancel _ hd0,ht] at this
   cases tryF r d<;>exact absurd this (by simp)

/-! ### C: small prime divisors alone -/
def badC (p n:Nat):Bool:=cond (Nat.beq (n % 8) 1) (cond (Nat.beq (2 ^ ((n - 1) % (p - 1)) % p) 1) (bad n) true) true
def dfsC (f:Nat):List Nat→Nat→Bool:=
 Nat.rec (fun _ _=>false) (fun _ ih l x=>List.casesOn (motive:=fun _=>Bool) l true (fun p t=>
  cond (Nat.ble 2147483648 (x*p)) true (cond (cond (Nat.ble (x*p) 1073741824) true (badC p (x*p))) (cond (ih (p::t) (x*p)) (ih t x) false) false))) f
theorem dfsC_sound:∀ (f:Nat) (l:List Nat) (x:Nat),dfsC f l x=true→l.Pairwise (· ≤ ·)→∀ m,2≤m→(∀ r,Pr r→r∣m→r∈l)→1073741824<x*m→x*m<2147483648 →
  ∃ p,Pr p∧p∣m∧badC p (x*m)=true
 | 0,l,x,h,_,_,_,_,_,_=>by cases h
 | f+1,[],x,h,_,m,h2,hm,_,_=>by
  obtain ⟨p,hp,hd⟩:=exists_pr m m (Nat.le_refl _) h2
  exact absurd (hm p hp hd) (by simp)
 | f+1,p::l,x,h,hs,m,h2,hm,lo,hi=>by
  have h':cond (Nat.ble 2147483648 (x*p)) true (cond (cond (Nat.ble (x*p) 1073741824) true (badC p (x*p))) (cond (dfsC f (p::l) (x*p)) (dfsC f l x) false) false)=true:=h
  obtain ⟨r,hr,hrd⟩:=exists_pr m m (Nat.le_refl _) h2
  have hpr:p≤r:=by
   rcases List.mem_cons.1 (hm r hr hrd) with e | e
   ·omega
   ·exact (List.pairwise_cons.1 hs).1 r e
  have hrm:=Nat.le_of_dvd (by omega) hrd
  have hxp:¬ 2147483648≤x*p:=fun q=>by
   have:=Nat.mul_le_mul_left x (Nat.le_trans hpr hrm)
   omega
  rw [ble_false hxp,cond_false] at h'
  have hb:cond (Nat.ble (x*p) 1073741824) true (badC p (x*p))=true:=by
   cases q:cond (Nat.ble (x*p) 1073741824) true (badC p (x*p)) with
   | true=>rfl
   | false=>rw [q] at h';cases h'
  rw [hb,cond_true] at h'
  have hb2:dfsC f (p::l) (x*p)=true:=by
   cases q:dfsC f (p::l) (x*p) with
   | true=>rfl
   | false=>rw [q] at h';cases h'
  rw [hb2,cond_true] at h'
  by_cases hp:Pr p∧p∣m
  ·obtain ⟨hp,m',rfl⟩:=hp
   have e:x*(p*m')=x*p*m':=(Nat.mul_assoc _ _ _).symm
   rcases Nat.lt_or_ge 1 m' with q | q
   ·rw [e] at lo hi
    obtain ⟨p',q1,q2,q3⟩:=dfsC_sound f (p::l) (x*p) hb2 hs m' q (fun r hr hd=>hm r hr (Nat.dvd_trans hd (Nat.dvd_mul_left _ _))) lo hi
    exact ⟨p',q1,Nat.dvd_trans q2 (Nat.dvd_mul_left _ _),by rw [e];exact q3⟩
   ·have hm1:m'=1:=by
     rcases Nat.eq_zero_or_pos m' with z | z
     ·subst z;rw [Nat.mul_zero,Nat.mul_zero] at lo;omega
     ·omega
    subst hm1
    rw [Nat.mul_one] at lo hi ⊢
    rw [ble_false (by omega),cond_false] at hb
    exact ⟨p,hp,Nat.dvd_refl _,hb⟩
  ·exact dfsC_sound f l x h' (List.pairwise_cons.1 hs).2 m h2 (fun r hr hd=>by
    rcases List.mem_cons.1 (hm r hr hd) with e | e
    ·subst e;exact absurd ⟨hr,hd⟩ hp
    ·exact e) lo hi
def primesC:List Nat:=[17,19,23,29,31,37,41,43,47,53,59,67,71,73,79,83,89,97,101,103,107,109,113,127,131,137,139,149,151,157,163,167,173,179,181,191,193,197,199,211,223,227,229,233,239,241,251,257,263,269,271,277,281,283,293,307,311,313,317,331,337,347,349,353,359,367,373,379,383,389,397,401,409,419,421,431,433,439,443,449,457,461,463,467,479,487,491,499,503,509,521,523,541,547,557,563,569,571,577,587,593,599,601,607,613,617,619,631,641,643,647,653,659,661,673,677,683,691,701,709,719,727,733,739,743,751,757,761,769,773,787,797,809,811,821,823,827,829,839,853,857,859,863,877,881,883,887,907,911,919,929,937,941,947,953,967,971,977,983,991,997,1009,1013,1019,1021,1031,1033,1039,1049,1051,1061,1063,1069,1087,1091,1093,1097,1103,1109,1117,1123,1129,1151,1153,1163,1171,1181,1187,1193,1201,1213,1217,1223,1229,1231,1237,1249,1259,1277,1279,1283,1289,1291,1297,1301,1303,1307,1319,1321,1327,1361,1367,1373,1381,1399,1409,1423,1427,1429,1433,1439,1447,1451,1453,1459,1471,1481,1483,1487,1489,1493,1499,1511,1523,1531,1543,1549,1553,1559,1567,1571,1579,1583,1597,1601,1607,1609,1613,1619,1621,1627,1637,1657,1663,1667,1669,1693,1697,1699,1709,1721,1723,1733,1741,1747,1753,1759,1777,1783,1787,1789,1801,1811,1823,1831,1847,1861,1867,1871,1873,1877,1879,1889,1901,1907,1913,1931,1933,1949,1951,1973,1979,1987,1993,1997,1999,2003,2011,2017,2027,2029,2039,2053,2063,2069,2081,2083,2087,2089,2099,2111,2113,2129,2131,2137,2141,2143,2153,2161,2179,2203,2207,2213,2221,2237,2239,2243,2251,2267,2269,2273,2281,2287,2293,2297,2309,2311,2333,2339,2341,2347,2351,2357,2371,2377,2381,2383,2389,2393,2399,2411,2417,2423,2437,2441,2447,2459,2467,2473,2477,2503,2521,2531,2539,2543,2549,2551,2557,2579,2591,2593,2609,2617,2621,2633,2647,2657,2659,2663,2671,2677,2683,2687,2689,2693,2699,2707,2711,2713,2719,2729,2731,2741,2749,2753,2767,2777,2789,2791,2797,2801,2803,2819,2833,2837,2843,2851,2857,2861,2879,2887,2897,2903,2909,2917,2927,2939,2953,2957,2963,2969,2971,2999]
def lowC (r:Nat):Bool:=cond (Nat.beq (r % 2) 1) (cond (Nat.beq (Nat.gcd r 915915) 1) (cond (primesC.any (Nat.beq r)) true (allN (fun d=>cond (Nat.ble d 1) true (cond (Nat.beq (r % d) 0) (Nat.beq r d) true)) 56 == false)) true) true
theorem evLowC:allN (fun r=>lowC (r+2)) 2999=true:=by decide +kernel
theorem primesC_all {r:Nat} (h:r<3001) (hr:Pr r) (ho:r % 2=1) (hc:Nat.gcd r 915915=1):r∈primesC:=by
 have h2:=hr.1
 have hl:=allN_sound _ _ evLowC (r - 2) (by omega)
 rw [show r - 2+2=r from by omega] at hl
 unfold lowC at hl
 rw [(beq_iff _ _).2 ho,(beq_iff _ _).2 hc,cond_true,cond_true] at hl
 cases q:primesC.any (Nat.beq r) with
 | true=>
  obtain ⟨x,hx,e⟩:=List.any_eq_true.1 q
  rw [(beq_iff _ _).1 e];exact hx
 | false=>
  rw [q,cond_false] at hl
  have key:∀ n,allN (fun d=>cond (Nat.ble d 1) true (cond (Nat.beq (r % d) 0) (Nat.beq r d) true)) n=true:=by
   intro n
   induction n with
   | zero=>rfl
   | succ n ih=>
    show cond (cond (Nat.ble n 1) true (cond (Nat.beq (r % n) 0) (Nat.beq r n) true)) (allN _ n) false=true
    rw [ih]
    by_cases h1:n≤1
    ·rw [(ble_iff _ _).2 h1];rfl
    ·rw [ble_false h1]
     by_cases h2:r % n=0
     ·rw [(beq_iff _ _).2 h2]
      have:r=n:=by
       rcases hr.2 n (Nat.dvd_of_mod_eq_zero h2) with h | h
       ·omega
       ·exact h.symm
      rw [(beq_iff _ _).2 this];rfl
     ·rw [beq_false h2];rfl
  rw [key] at hl
  cases hl
theorem primesC_sorted:primesC.Pairwise (· ≤ ·):=by decide +kernel
def topC:List Nat→Bool
 | []=>true
 | p::t=>cond (dfsC 70 (p::t.filter (fun q=>Nat.beq (sg q) (sg p))) p) (topC t) false
theorem Psp.topC {n:Nat} (h:Psp n) (hn:¬ Pr n):∀ l:List Nat,Go.Proofs.YtdcenblblimkfaaGreat.topC l=true→l.Pairwise (· ≤ ·)→(∀ r,Pr r→r∣n→r∈l)→∃ p,Pr p∧p∣n∧badC p n=true
 | [],_,_,hm=>by
  obtain ⟨p,hp,hd⟩:=exists_pr n n (Nat.le_refl _) (by have:=h.lo;omega)
  exact absurd (hm p hp hd) (by simp)
 | p::t,ht,hs,hm=>by
  have lo:=h.lo
  have hi:=h.hi
  unfold Go.Proofs.YtdcenblblimkfaaGreat.topC at ht
  cases q:dfsC 70 (p::t.filter (fun q=>Nat.beq (sg q) (sg p))) p with
  | false=>rw [q] at ht;cases ht
  | true=>
   rw [q,cond_true] at ht
   by_cases hp:Pr p∧p∣n
   ·obtain ⟨hp,m,hpm⟩:=hp
    have hm2:2≤m:=by
     rcases Nat.lt_or_ge m 2 with z | z
     ·exfalso
      rcases Nat.eq_zero_or_pos m with y | y
      ·subst y;rw [Nat.mul_zero] at hpm;omega
      ·obtain rfl:m=1:=by omega
       rw [Nat.mul_one] at hpm
       exact hn (hpm▸hp)
     ·exact z
    obtain ⟨p',q1,q2,q3⟩:=dfsC_sound 70 _ p q (by
     have h2:=List.pairwise_cons.1 hs
     exact List.pairwise_cons.2 ⟨fun x hx=>h2.1 x (List.mem_filter.1 hx).1,h2.2.filter _⟩) m hm2 (fun r hr hd=>by
     have hrn:r∣n:=by rw [hpm];exact Nat.dvd_trans hd (Nat.dvd_mul_left _ _)
     rcases List.mem_cons.1 (hm r hr hrn) with e | e
     ·subst e;exact List.mem_cons_self ..
     ·exact List.mem_cons_of_mem _ (List.mem_filter.2 ⟨e,(beq_iff _ _).2 (h.sig r p hr hrn hp ⟨m,hpm⟩)⟩)) (by omega) (by omega)
    exact ⟨p',q1,by rw [hpm];exact Nat.dvd_trans q2 (Nat.dvd_mul_left _ _),by rw [hpm];exact q3⟩
   ·exact h.topC hn t ht (List.pairwise_cons.1 hs).2 (fun r hr hd=>by
     rcases List.mem_cons.1 (hm r hr hd) with e | e
     ·subst e;exact absurd ⟨hr,hd⟩ hp
     ·exact e)
theorem Psp.noC {n:Nat} (h:Psp n) (hn:¬ Pr n) (hall:∀ r,Pr r→r∣n→r≤3000) (hC:Go.Proofs.YtdcenblblimkfaaGreat.topC primesC=true):False:=by
 have lo:=h.lo
 have hi:=h.hi
 obtain ⟨p,hp,hd,hb⟩:=h.topC hn primesC hC primesC_sorted (fun r hr hd=>primesC_all (by have:=hall r hr hd;omega) hr (h.odd hd) (h.copd hd))
 have h1:=h.f.1.sub hd
 have h3:=h1.ndvd (by omega) hp.1
 have h4:One 2 ((n - 1) % (p - 1)) p:=h1.rem (by show _ % p=1 % p;rw [hp.pow_pred h3,Nat.mod_eq_of_lt (by have:=hp.1;omega)])
 have h5:2 ^ ((n - 1) % (p - 1)) % p=1:=by
  have h':2 ^ ((n - 1) % (p - 1)) % p=1 % p:=h4
  rw [h',Nat.mod_eq_of_lt (by have:=hp.1;omega)]
 unfold badC at hb
 rw [(beq_iff _ _).2 h.m8,cond_true,(beq_iff _ _).2 h5,cond_true,h.no] at hb
 exact absurd hb (by simp)

/-! ### The numbers below 2^16 -/
def facL:Nat:=prodN (fun i=>i+2) 255
def lowF (n:Nat):Bool:=cond (strB 2 n) (cond (strB 7 n) (cond (strB 61 n) (cond (Nat.ble n 256) (allN (fun d=>cond (Nat.ble d 1) true (cond (Nat.beq (n % d) 0) (Nat.beq n d) true)) 257) (Nat.beq (Nat.gcd n facL) 1)) true) true) true
theorem lowF_prime {n:Nat} (hn:2≤n) (h16:n<65536) (h2:strB 2 n=true) (h7:strB 7 n=true) (h61:strB 61 n=true) (h:lowF n=true):Pr n:=by
 unfold lowF at h
 rw [h2,h7,h61,cond_true,cond_true,cond_true] at h
 have key:∀ d,2≤d→d<257→d∣n→n=d:=fun d h1 h2 hd=>by
  by_cases q:n≤256
  ·rw [(ble_iff _ _).2 q,cond_true] at h
   have:=allN_sound _ 257 h d h2
   rw [ble_false (by omega),cond_false,(beq_iff _ _).2 (Nat.mod_eq_zero_of_dvd hd),cond_true] at this
   exact (beq_iff _ _).1 this
  ·rw [ble_false q,cond_false] at h
   have h3:d∣facL:=by
    have:=prodN_dvd (fun i=>i+2) 255 (d - 2) (by omega)
    rwa [show (d - 2)+2=d from by omega] at this
   have h4:=Nat.dvd_gcd hd h3
   rw [(beq_iff _ _).1 h] at h4
   have:=Nat.le_of_dvd Nat.one_pos h4
   omega
 refine ⟨hn,fun d hd=>?_⟩
 obtain ⟨e,he⟩:=hd
 have hdp:0<d:=by
  rcases Nat.eq_zero_or_pos d with q | q
  ·subst q;rw [Nat.zero_mul] at he;omega
  ·exact q
 rcases Nat.lt_or_ge d 2 with q | q
 ·left;omega
 ·rcases Nat.lt_or_ge d 257 with q2 | q2
  ·exact .inr (key d q q2 ⟨e,he⟩).symm
  ·have he2:e<257:=by
    rcases Nat.lt_or_ge e 257 with q3 | q3
    ·exact q3
    ·have:=Nat.mul_le_mul q2 q3;omega
   rcases Nat.lt_or_ge e 2 with q3 | q3
   ·right
    have:e=1:=by
     rcases Nat.eq_zero_or_pos e with z | z
     ·subst z;rw [Nat.mul_zero] at he;omega
     ·omega
    subst this;omega
   ·have:=key e q3 he2 ⟨d,by rw [he,Nat.mul_comm]⟩
    left
    have h4:e*1=e*d:=by rw [Nat.mul_one,Nat.mul_comm];omega
    exact (Nat.eq_of_mul_eq_mul_left (by omega) h4).symm


structure PartI (p:Int→Int→Bool) (v:Int) (d0 d:Array Int) (a b i j:Nat):Prop where
 perm:Sort.PermIn a b d0 d
 av:d[a]! = v
 ai:a<i
 ij:i≤j+1
 jb:j<b
 bs:b≤d.size
 lo:∀ k,a<k→k<i→p v d[k]! = true
 hi:∀ k,j<k→k<b→p v d[k]! = false

section
variable {p:Int→Int→Bool} {v:Int} {d0 d:Array Int} {a b i j:Nat}
theorem PartI.start (hp:Sort.PermIn a b d0 d) (hv:d[a]! = v) (hb:b≤d.size) (hab:a<b):PartI p v d0 d a b (a+1) (b - 1):=
 ⟨hp,hv,by omega,by omega,by omega,hb,fun k h1 h2=>by omega,fun k h1 h2=>by omega⟩
theorem PartI.up (h:PartI p v d0 d a b i j) (hij:i≤j) (ht:p v d[i]! = true):PartI p v d0 d a b (i+1) j:=
 ⟨h.perm,h.av,by have:=h.ai;omega,by omega,h.jb,h.bs,fun k h1 h2=>by
  rcases Nat.lt_or_eq_of_le (Nat.le_of_lt_succ h2) with h3 | h3
  ·exact h.lo k h1 h3
  ·subst h3;exact ht,h.hi⟩
theorem PartI.down (h:PartI p v d0 d a b i j) (hij:i≤j) (ht:p v d[j]! = false):PartI p v d0 d a b i (j - 1):=
 ⟨h.perm,h.av,h.ai,by have:=h.ai;omega,by have:=h.jb;omega,h.bs,h.lo,fun k h1 h2=>by
  by_cases e:k=j
  ·subst e;exact ht
  ·exact h.hi k (by omega) h2⟩
theorem PartI.lt (h1:p v d[i]! = false) (h2:p v d[j]! = true) (hij:i≤j):i<j:=by
 rcases Nat.lt_or_eq_of_le hij with h | h
 ·exact h
 ·subst h;rw [h1] at h2;cases h2
theorem PartI.swap (h:PartI p v d0 d a b i j) (hij:i<j) (h1:p v d[i]! = false) (h2:p v d[j]! = true):PartI p v d0 (Sort.swp d i j) a b (i+1) (j - 1):=by
 have ha:=h.ai
 have hj:=h.jb
 have hb:=h.bs
 have g:=Sort.swp_get d (show i<d.size by omega) (show j<d.size by omega)
 refine ⟨Sort.permIn_trans _ _ _ a b h.perm (Sort.swp_permIn d a b i j (by omega) (by omega) (by omega) hj hb),?_,by omega,by omega,by omega,by rw [Sort.size_swp];exact hb,?_,?_⟩
 ·rw [g,if_neg (by omega),if_neg (by omega)];exact h.av
 ·intro k hk1 hk2
  rw [g,if_neg (by omega)]
  by_cases e:k=i
  ·rw [if_pos e];exact h2
  ·rw [if_neg e];exact h.lo k hk1 (by omega)
 ·intro k hk1 hk2
  rw [g]
  by_cases e:k=j
  ·rw [if_pos e];exact h1
  ·rw [if_neg e,if_neg (by omega)];exact h.hi k (by omega) hk2
end

structure PPost (d0 d:Array Int) (a b m:Nat):Prop where
 perm:Sort.PermIn a b d0 d
 am:a≤m
 mb:m<b
 bs:b≤d.size
 lo:∀ k,a≤k→k<m→Sort.ltInt d[k]! d[m]! = true
 hi:∀ k,m<k→k<b→Sort.ltInt d[k]! d[m]! = false
theorem PartI.post {v:Int} {d0 d:Array Int} {a b i j:Nat} (h:PartI (fun x y=>Sort.ltInt y x) v d0 d a b i j) (hij:j<i):PPost d0 (Sort.swp d j a) a b j:=by
 have ha:=h.ai
 have hi:=h.ij
 have hj:=h.jb
 have hb:=h.bs
 have g:=Sort.swp_get d (show j<d.size by omega) (show a<d.size by omega)
 have hv:(Sort.swp d j a)[j]! = v:=by
  rw [g]
  by_cases e:j=a
  ·rw [if_pos e,e];exact h.av
  ·rw [if_neg e,if_pos rfl];exact h.av
 refine ⟨Sort.permIn_trans _ _ _ a b h.perm (Sort.swp_permIn d a b j a (by omega) hj (Nat.le_refl _) (by omega) hb),by omega,hj,by rw [Sort.size_swp];exact hb,?_,?_⟩
 ·intro k h1 h2
  rw [hv,g]
  by_cases e:k=a
  ·rw [if_pos e];exact h.lo j (by omega) (by omega)
  ·rw [if_neg e,if_neg (by omega)];exact h.lo k (by omega) (by omega)
 ·intro k h1 h2
  rw [hv,g,if_neg (by omega),if_neg (by omega)]
  exact h.hi k h1 h2

structure EPost (v:Int) (d0 d:Array Int) (a b m:Nat):Prop where
 perm:Sort.PermIn a b d0 d
 am:a<m
 mb:m≤b
 bs:b≤d.size
 lo:∀ k,a≤k→k<m→Sort.ltInt v d[k]! = false
 hi:∀ k,m≤k→k<b→Sort.ltInt v d[k]! = true
theorem PartI.epost {v:Int} {d0 d:Array Int} {a b i j:Nat} (h:PartI (fun x y=> !Sort.ltInt x y) v d0 d a b i j) (hij:j<i):EPost v d0 d a b i:=by
 have ha:=h.ai
 have hi:=h.ij
 have hj:=h.jb
 refine ⟨h.perm,ha,by omega,h.bs,?_,?_⟩
 ·intro k h1 h2
  by_cases e:k=a
  ·subst e;rw [h.av];exact Sort.swo_ltInt.irrefl _
  ·simpa using h.lo k (by omega) h2
 ·intro k h1 h2
  simpa using h.hi k (by omega) h2

theorem EPost.round {v:Int} {d3 d4:Array Int} {a b mid:Nat} (h:EPost v d3 d4 a b mid) (ha:0<a) (hB:Sort.Below Sort.ltInt a b d3) (hnl:Sort.ltInt d3[a - 1]! v=false) :
  Sort.Below Sort.ltInt mid b d4∧∀ R,Sort.PermIn mid b d4 R→Sort.SortedIn Sort.ltInt mid b R→Sort.PermIn a b d3 R∧Sort.SortedIn Sort.ltInt a b R:=by
 have hS:=Sort.swo_ltInt
 have hb3:b≤d3.size:=by have:=h.bs;rw [h.perm.1] at this;exact this
 have hge:∀ i,a≤i→i<b→Sort.ltInt d3[i]! v=false:=fun i hi hi'=>by
  rcases hB with h0 | hB
  ·omega
  ·exact hS.ntrans _ _ _ (hB i hi hi') hnl
 have hge4:=Sort.permIn_all d3 d4 a b (fun x=>Sort.ltInt x v=false) hb3 h.perm hge
 have ham:=h.am
 refine ⟨Or.inr fun i hi hi'=>?_,fun R hR hs=>⟨Sort.permIn_trans _ _ _ a b h.perm (Sort.permIn_mono _ _ mid b a b (by omega) (Nat.le_refl _) h.bs hR),?_⟩⟩
 ·cases hc:Sort.ltInt d4[i]! d4[mid - 1]! with
  | false=>rfl
  | true=>have:=hS.trans _ _ _ (h.hi i hi hi') hc;rw [h.lo (mid - 1) (by omega) (by omega)] at this;cases this
 ·refine Sort.sorted_glue_eq hS v hs (fun i hi hi'=>?_) (fun i hi hi'=>?_) (Sort.permIn_all d4 R mid b (fun x=>Sort.ltInt v x=true) h.bs hR h.hi)
  ·rw [hR.2.1 i (Or.inl hi')];exact h.lo i hi hi'
  ·rw [hR.2.1 i (Or.inl hi')];exact hge4 i hi (by have:=h.mb;omega)

theorem PPost.left {d3 d4 L:Array Int} {a b mid:Nat} (h:PPost d3 d4 a b mid) (hL:Sort.PermIn a mid d4 L) (hsL:Sort.SortedIn Sort.ltInt a mid L) :
  Sort.Below Sort.ltInt (mid+1) b L∧∀ R,Sort.PermIn (mid+1) b L R→Sort.SortedIn Sort.ltInt (mid+1) b R→Sort.PermIn a b d3 R∧Sort.SortedIn Sort.ltInt a b R:=by
 have hS:=Sort.swo_ltInt
 have ham:=h.am
 have hmb:=h.mb
 have hbL:b≤L.size:=by rw [hL.1];exact h.bs
 have eL:∀ i,mid≤i→L[i]! = d4[i]!:=fun i hi=>hL.2.1 i (Or.inr hi)
 have hge:∀ k,mid<k→k<b→Sort.ltInt L[k]! L[mid]! = false:=fun k h1 h2=>by rw [eL k (by omega),eL mid (Nat.le_refl _)];exact h.hi k h1 h2
 refine ⟨Or.inr fun i hi hi'=>by rw [Nat.add_sub_cancel];exact hge i (by omega) hi',fun R hR hsR=>⟨?_,?_⟩⟩
 ·exact Sort.permIn_trans _ _ _ a b h.perm (Sort.permIn_trans _ _ _ a b (Sort.permIn_mono _ _ a mid a b (Nat.le_refl _) (by omega) h.bs hL) (Sort.permIn_mono _ _ (mid+1) b a b (by omega) (Nat.le_refl _) hbL hR))
 ·have eR:∀ i,i≤mid→R[i]! = L[i]!:=fun i hi=>hR.2.1 i (Or.inl (by omega))
  refine Sort.sorted_glue hS (hsL.congr fun i _ hi'=>eR i (by omega)) hsR (fun i hi hi'=>?_) (fun i hi hi'=>?_)
  ·rw [eR i (by omega),eR mid (Nat.le_refl _),eL mid (Nat.le_refl _)]
   exact Sort.permIn_all d4 L a mid (fun x=>Sort.ltInt x d4[mid]! = true) (by have:=h.bs;omega) hL h.lo i hi hi'
  ·rw [eR mid (Nat.le_refl _)]
   exact Sort.permIn_all L R (mid+1) b (fun x=>Sort.ltInt x L[mid]! = false) hbL hR (fun k hk hk'=>hge k (by omega) hk') i (by omega) hi'
theorem PPost.right {d3 d4 L:Array Int} {a b mid:Nat} (h:PPost d3 d4 a b mid) (hB:Sort.Below Sort.ltInt a b d3) (hL:Sort.PermIn (mid+1) b d4 L) (hsL:Sort.SortedIn Sort.ltInt (mid+1) b L) :
  Sort.Below Sort.ltInt a mid L∧∀ R,Sort.PermIn a mid L R→Sort.SortedIn Sort.ltInt a mid R→Sort.PermIn a b d3 R∧Sort.SortedIn Sort.ltInt a b R:=by
 have hS:=Sort.swo_ltInt
 have ham:=h.am
 have hmb:=h.mb
 have hb3:b≤d3.size:=by have:=h.bs;rw [h.perm.1] at this;exact this
 have hbL:b≤L.size:=by rw [hL.1];exact h.bs
 have eL:∀ i,i≤mid→L[i]! = d4[i]!:=fun i hi=>hL.2.1 i (Or.inl (by omega))
 have hBa:Sort.Below Sort.ltInt a mid d4:=(hB.perm hb3 h.perm).mono (by omega)
 refine ⟨?_,fun R hR hsR=>⟨?_,?_⟩⟩
 ·rcases hBa with h0 | hBa
  ·exact Or.inl h0
  ·exact Or.inr fun i hi hi'=>by rw [eL i (by omega),eL (a - 1) (by omega)];exact hBa i hi hi'
 ·exact Sort.permIn_trans _ _ _ a b h.perm (Sort.permIn_trans _ _ _ a b (Sort.permIn_mono _ _ (mid+1) b a b (by omega) (Nat.le_refl _) h.bs hL) (Sort.permIn_mono _ _ a mid a b (Nat.le_refl _) (by omega) hbL hR))
 ·have eR:∀ i,mid≤i→R[i]! = L[i]!:=fun i hi=>hR.2.1 i (Or.inr hi)
  refine Sort.sorted_glue hS hsR (hsL.congr fun i hi _=>eR i (by omega)) (fun i hi hi'=>?_) (fun i hi hi'=>?_)
  ·rw [eR mid (Nat.le_refl _),eL mid (Nat.le_refl _)]
   exact Sort.permIn_all L R a mid (fun x=>Sort.ltInt x d4[mid]! = true) (by omega) hR (fun k hk hk'=>by rw [eL k (by omega)];exact h.lo k hk hk') i hi hi'
  ·rw [eR i (by omega),eR mid (Nat.le_refl _),eL mid (Nat.le_refl _)]
   exact Sort.permIn_all d4 L (mid+1) b (fun x=>Sort.ltInt x d4[mid]! = false) h.bs hL (fun k hk hk'=>h.hi k (by omega) hk') i (by omega) hi'
end Go.Proofs.YtdcenblblimkfaaGreat
