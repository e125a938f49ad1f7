/- The program's power, strong test and Prime.
The program's strong test. -/
import Derived.Test.YtdcenblblimkfaaGreatPn23
import Derived.Deep.Draws
import Derived.Deep.OwnRows
set_option linter.unusedSimpArgs false
set_option linter.unusedVariables false
set_option linter.unnecessarySimpa false
set_option linter.unusedSectionVars false
namespace Go.Proofs.YtdcenblblimkfaaGreat
open Go.RowKit Go.Shelf

theorem and1_u64 (x:Nat) (h:x≤18446744073709551615):bits .and .u64 (x:Int) 1=((x % 2:Nat):Int):=by
 have:=bits_mask .u64 64 (by decide) (fun n h0 h1=>IntWalk.u64_in n (by omega)) 1 (by decide) (x:Int) (by omega) (by omega)
 simpa using this
theorem and1_u32 (x:Nat) (h:x≤4294967295):bits .and .u32 (x:Int) 1=((x % 2:Nat):Int):=by
 have:=bits_mask .u32 32 (by decide) (fun n h0 h1=>IntWalk.u32_in n (by omega)) 1 (by decide) (x:Int) (by omega) (by omega)
 simpa using this

set_option maxHeartbeats 1600000 in
set_option maxRecDepth 100000 in
theorem mpower_walk (a x n:Nat) (w:World) (ha:a≤4294967295) (hx:x≤18446744073709551615) (hn:2≤n) (hn2:n≤4294967295) :
  Calls Tryz.prog 296 #[.int .u32 a,.int .u64 x,.int .u32 n] w fun e w'=>e = .returned (.int .u32 ((a ^ x % n:Nat):Int))∧w'=w.alloc (.cells #[.int .u64 n] 126):=by
 have hcell:(w.alloc (.cells #[.int .u64 n] 126)).cell? ⟨w.heap.size,0,none⟩=some (.int .u64 n):=cell_of_one (heap_alloc_new w _)
 have henter:=enters_product
 go_enter Tryz.func296,Tryz.ntmps296
 go_wp2_with fail
 refine (mproduct_walk n _ hn2).mono ?_
 rintro e w0 ⟨rfl,hw0⟩
 rw [← hw0] at hcell
 have HW0:=Lib.hid hw0
 clear hw0
 generalize hpz:w.heap.size=pz at *
 go_wp2
 go_loopw [8,0,1] (fun o b y wr=>∃ p c d:Nat,Hid (p*c ^ d % n=a ^ x % n)∧o = .int .u32 p∧b = .int .u32 c∧y = .int .u64 d∧p<n∧c≤4294967295∧d≤18446744073709551615∧wr=w0) (fun _ _ y _=>(intOf y).toNat)
 case atStart=>exact ⟨1,a,x,Lib.hid (by rw [Nat.one_mul]),rfl,rfl,rfl,by omega,ha,hx,rfl⟩
 case round=>
  obtain ⟨p,c,d,HE,rfl,rfl,rfl,hp,hc,hd,rfl⟩:=hrel
  have hl1:p*c % n<n:=Nat.mod_lt _ (by omega)
  have hl2:c*c % n<n:=Nat.mod_lt _ (by omega)
  by_cases h0:0<d
  ·have hb:=and1_u64 d hd
   by_cases h1:d % 2=1
   ·have hq:(bits .and .u64 (d:Int) 1 == 1)=true:=by rw [hb,h1];rfl
    clear hb
    go_wp2_with fail
    refine (mproductC_walk p c n pz _ (by omega) hc (by omega) hn2 hcell).mono ?_
    rintro e w1 ⟨rfl,rfl⟩
    go_wp2_with fail
    refine (mproductC_walk c c n pz _ hc hc (by omega) hn2 hcell).mono ?_
    rintro e w1 ⟨rfl,rfl⟩
    go_wp2
    go_roundw
    case rel=>
     exact ⟨p*c % n,c*c % n,d / 2,Lib.hid (by have:=pow_round n p c d;rw [if_pos h1] at this;rw [this];exact HE.out),rfl,rfl,by go_num,hl1,by omega,by omega,trivial⟩
    case measure=>simp [intOf];omega
   ·have hq:(bits .and .u64 (d:Int) 1 == 1)=false:=by rw [hb,show d % 2=0 from by omega];rfl
    clear hb
    go_wp2_with fail
    refine (mproductC_walk c c n pz _ hc hc (by omega) hn2 hcell).mono ?_
    rintro e w1 ⟨rfl,rfl⟩
    go_wp2
    go_roundw
    case rel=>
     exact ⟨p,c*c % n,d / 2,Lib.hid (by have:=pow_round n p c d;rw [if_neg h1] at this;rw [this];exact HE.out),rfl,rfl,by go_num,hp,by omega,by omega,trivial⟩
    case measure=>simp [intOf];omega
  ·go_wp2
   go_ret
   obtain rfl:d=0:=by omega
   refine ⟨?_,HW0.out⟩
   have h:=HE.out
   rw [Nat.pow_zero,Nat.mul_one,Nat.mod_eq_of_lt hp] at h
   rw [h]
   rfl


set_option maxHeartbeats 1600000 in
set_option maxRecDepth 100000 in
theorem mpasses_walk (a n u k:Nat) (w:World) (ha:a≤4294967295) (hn:3≤n) (hn2:n≤2147483647) (hno:n % 2=1) (hu:u % 2=1) (huk:n - 1=u*2 ^ k) :
  Calls Tryz.prog 280 #[.int .u32 a,.int .u32 n] w fun e w'=>e = .returned (.bool (tr (Strong a n u k)))∧w'=w.alloc (.cells #[.int .u64 n] 126):=by
 have hrem:=Nat.mod_lt a (show 0<n by omega)
 have hk1:1≤k:=by
  rcases Nat.eq_zero_or_pos k with e | e
  ·subst e;rw [Nat.pow_zero,Nat.mul_one] at huk;omega
  ·exact e
 have hk31:k≤31:=by
  rcases Nat.lt_or_ge 31 k with h | h
  ·have h1:=Nat.pow_le_pow_right (n:=2) (by decide) (show 32≤k from h)
   have h2:=Nat.mul_le_mul (show 1≤u by omega) h1
   omega
  ·exact h
 have HUK:=Lib.hid huk
 clear huk
 go_enter Tryz.func280,Tryz.ntmps280
 go_wp2
 go_loopw [5,6] (fun y z wr=>∃ d j t:Nat,Hid (d=u*2 ^ j)∧y = .int .u32 d∧z = .int .i64 t∧t+j=k∧1≤d∧d≤n - 1∧wr=w) (fun y _ _=>(intOf y).toNat)
 case atStart=>exact ⟨n - 1,k,0,HUK,by go_num,rfl,by omega,by omega,by omega,rfl⟩
 case round=>
  obtain ⟨d,j,t,HD,rfl,rfl,htj,hd1,hd2,rfl⟩:=hrel
  have hb:=and1_u32 d (by omega)
  by_cases h0:d % 2=0
  ·have hq:(bits .and .u32 (d:Int) 1 == 0)=true:=by rw [hb,h0];rfl
   clear hb
   go_wp2
   go_roundw
   case rel=>
    obtain ⟨i,rfl⟩:∃ i,j=i+1:=⟨j - 1,by
     have h:=HD.out
     rcases Nat.eq_zero_or_pos j with e | e
     ·subst e;rw [Nat.pow_zero,Nat.mul_one] at h;omega
     ·omega⟩
    refine ⟨d / 2,i,t+1,Lib.hid ?_,by go_num,by go_num,by omega,by omega,by omega,trivial⟩
    have h:=HD.out
    rw [Nat.pow_succ,← Nat.mul_assoc] at h
    omega
   case measure=>simp [intOf];omega
  ·have hq:(bits .and .u32 (d:Int) 1 == 0)=false:=by rw [hb,show d % 2=1 from by omega];rfl
   clear hb
   have hdu:d=u:=by
    have h:=HD.out
    exact odd_unique (j:=0) (k:=j) (by omega) hu (by rw [Nat.pow_zero,Nat.mul_one];exact h)
   have htk:t=k:=by
    have h:=HD.out
    have hj:j=0:=by
     rcases Nat.eq_zero_or_pos j with e | e
     ·exact e
     ·obtain ⟨i,rfl⟩:∃ i,j=i+1:=⟨j - 1,by omega⟩
      rw [Nat.pow_succ,← Nat.mul_assoc] at h
      omega
    omega
   subst hdu
   subst htk
   have hx:=Nat.mod_lt (a ^ d) (show 0<n by omega)
   go_wp2_with fail
   refine (mpower_walk (a % n) d n _ (by omega) (by omega) (by omega) (by omega)).mono ?_
   rintro e w1 ⟨rfl,hw1⟩
   have HW1:=Lib.hid hw1
   clear hw1
   rw [← Nat.pow_mod]
   generalize hy:a ^ d % n=y at *
   have HY:=Lib.hid hy
   clear hy
   by_cases h1:y=1
   ·subst h1
    go_wp2
    go_ret
    rw [tr_pos (.inl HY.out)]
    exact ⟨rfl,HW1.out⟩
   have hy1:((y:Int) == 1)=false:=by simp;omega
   by_cases h2:y=n - 1
   ·have hy2:((y:Int) == (n:Int) - 1)=true:=by simp;omega
    go_wp2
    ·go_ret
     rw [tr_pos (.inr ⟨0,by omega,by rw [Nat.pow_zero,Nat.mul_one];exact HY.out.trans h2⟩)]
     exact ⟨rfl,HW1.out⟩
    all_goals (exfalso;rename_i hh;first | (simp [hy1,hy2] at hh;done) | (simp at hh;omega) | omega | (simp_all;done))
   have hy2:((y:Int) == (n:Int) - 1)=false:=by simp;omega
   go_wp2
   go_loopw [4,7,34] (fun r x z wr=>∃ i v:Nat,r = .bool false∧Hid (v=a ^ (d*2 ^ i) % n)∧Hid (∀ j,j≤i→a ^ (d*2 ^ j) % n≠n - 1)∧z = .int .i64 i∧x = .int .u32 v∧i+1≤t∧v<n∧wr=w1) (fun _ _ z _=>t - (intOf z).toNat)
   case atStart=>exact ⟨0,y,rfl,Lib.hid (by rw [Nat.pow_zero,Nat.mul_one];exact HY.out.symm),Lib.hid (by intro j hj;obtain rfl:j=0:=(by omega);rw [Nat.pow_zero,Nat.mul_one,HY.out];exact h2),rfl,rfl,by omega,hx,rfl⟩
   case round=>
    obtain ⟨i,v,rfl,HV,HN,rfl,rfl,hik,hv,rfl⟩:=hrel
    obtain ⟨s,hs⟩:∃ s:Nat,v*v % n=s:=⟨_,rfl⟩
    have hsn:s<n:=by rw [← hs];exact Nat.mod_lt _ (by omega)
    have hmul:v*v≤4294967295*4294967295:=Nat.mul_le_mul (by omega) (by omega)
    have h3:(v:Int)*v % n=(s:Int):=by rw [← hs,Int.natCast_emod,Int.natCast_mul]
    have HS:Hid (s=a ^ (d*2 ^ (i+1)) % n):=Lib.hid (by rw [← hs,HV.out];exact strong_sq a n d i)
    clear hs
    by_cases hlt:i+1<t
    ·by_cases hvn:s=n - 1
     ·have hq1:((s:Int) == (n:Int) - 1)=true:=by simp;omega
      go_wp2
      go_ret
      rw [tr_pos (.inr ⟨i+1,hlt,by rw [← HS.out];exact hvn⟩)]
      exact ⟨rfl,HW1.out⟩
     ·have hq1:((s:Int) == (n:Int) - 1)=false:=by simp;omega
      go_wp2
      go_roundw
      case rel=>
       refine ⟨i+1,s,rfl,HS,Lib.hid ?_,by go_num,by go_num,by omega,hsn,trivial⟩
       intro j hj
       rcases Nat.lt_or_eq_of_le hj with h | h
       ·exact HN.out j (by omega)
       ·subst h;rw [← HS.out];exact hvn
      case measure=>simp [intOf];omega
    ·go_wp2
     go_ret
     rw [tr_neg (show ¬ Strong a n d t from ?_)]
     exact ⟨rfl,HW1.out⟩
     intro h
     rcases h with h | ⟨j,hj,h⟩
     ·exact absurd (HY.out.symm.trans h) h1
     ·exact absurd h (HN.out j (by omega))
end Go.Proofs.YtdcenblblimkfaaGreat
