/- The reference's chain of primes; default parameters.
Elements of the ring: their data, their place in memory. No walk. -/
import Derived.Test.YtdcenblblimkfaaGreatPn06
import Derived.Lib.AppendZeros
set_option linter.unusedSimpArgs false
set_option linter.unusedVariables false
set_option linter.unnecessarySimpa false
set_option linter.unusedSectionVars false
namespace Go.Proofs.YtdcenblblimkfaaGreat
open Go.RowKit

def OwU (w:World) (base:Nat) (v:Value) (l:List Nat):Prop:=w.ownsRow base 22 1 v l.length (l.map fun x:Nat=>Value.int .u32 (x:Int))
theorem OwU.nil (w:World) (base:Nat):OwU w base (.slice none 0 0) []:=World.ownsRow_nil w _ _ _
theorem OwU.shape {w:World} {base:Nat} {v:Value} {l:List Nat} (h:OwU w base v l):∃ ao cap,v = .slice ao l.length cap∧Rd w ao l∧l.length≤cap∧cap≤maxLen∧∀ a,ao=some a→base≤a.block:=by
 rcases h.2 with ⟨rfl,h0⟩ | ⟨g,cap,cur,rfl,hg,hh,hnc,hml,hcs,htk⟩
 ·have:l=[]:=List.eq_nil_of_length_eq_zero h0
  subst this
  exact ⟨none,0,rfl,Rd.nil _ _,by simp,by simp,fun a h=>by simp at h⟩
 ·refine ⟨_,cap,rfl,fun k hk=>⟨g,0,rfl,fun j hj=>?_⟩,hnc,hml,fun a h=>by simp at h;subst h;exact hg⟩
  rw [cell_of_row w g (0+j) cur _ _ hh,Nat.zero_add,← Array.getElem?_toList]
  have e:=congrArg (·[j]?) htk
  rw [Nat.mul_one,List.getElem?_take,if_pos hj] at e
  rw [e]
  simp [List.getD_eq_getElem?_getD,hj]
theorem OwU.append {w:World} {base:Nat} {v:Value} {l:List Nat} (h:OwU w base v l) (hb:base≤w.heap.size) (hlen:l.length≤1000000) (ty:TypeId) (ad:Addr) (c:Nat) (x:Nat) (hx:w.cell? ad=some (.int .u32 (x:Int))) :
  ∃ v' w',(Builtin.append_ #[23,23] ty #[v,.slice (some ad) 1 c]).run Tryz.prog w = .ok v' w'∧OwU w' base v' (l++[x])∧Below base w w':=by
 obtain ⟨i0,hi,hz0,hz1,hz2⟩:=info_parts info_u32
 have hnews:∀ j u,([.int .u32 (x:Int)]:List Value)[j]? = some u→w.cell? (ad.add j)=some u:=by
  intro j u hj
  match j,hj with
  | 0,hj=>
   simp at hj
   subst hj
   have:ad.add 0=ad:=by unfold Addr.add;split<;>simp_all
   rw [this]
   exact hx
 obtain ⟨v',w',hr,ho,hg,_⟩:=run_append_own (P:=Tryz.prog) w base 23 ty 22 i0 (.int .u32 0) 1 4 Tryz.underlying23 hi hz0 hz1 hz2 rfl (by decide) v l.length _ h ad 1 c [.int .u32 (x:Int)] rfl hnews
  (by simp [Value.oneCell']) (by unfold maxLen;omega) (by omega) hb
 refine ⟨v',w',hr,?_,?_⟩
 ·unfold OwU
  rw [List.length_append,List.map_append]
  exact ho
 ·refine (Turn.of_grown (S:=match v.ownBlock with | some g=>[g] | none=>[]) hg (fun k hk=>.inl (by rw [hk];simp))).belowN hb ?_
  intro k hk
  rcases h.2 with ⟨rfl,_⟩ | ⟨g,cap,cur,rfl,hg,_⟩
  ·simp [Value.ownBlock] at hk
  ·simp [Value.ownBlock] at hk;omega

set_option maxHeartbeats 1600000 in
theorem r03dim_walk (n:Int) (w:World) (hn:IsDim n):Calls Tryz.prog 283 #[.int .i64 n] w fun e w'=>e = .returned (.bool true)∧w'=w:=by
 rcases hn with h | h | h | h
 all_goals
  subst h
  go_enter Tryz.func283,Tryz.ntmps283
  go_wp2
  go_ret
  exact ⟨rfl,rfl⟩

def ChainEnd (B:Nat) (l:List Nat) (count:Nat) (e:Ending) (w':World):Prop:=
 (l.length<count∧e = .returned (.tuple #[.slice none 0 0,.int .i64 4])) ∨
 ∃ ao cap,count≤l.length∧e = .returned (.tuple #[.slice ao l.length cap,.int .i64 0])∧Rd w' ao l∧l.length≤cap∧cap≤maxLen∧∀ a,ao=some a→B≤a.block

set_option maxHeartbeats 6400000 in
set_option maxRecDepth 100000 in
theorem r03chain_walk (n t count:Nat) (w:World) (hn:n=4∨n=8∨n=16∨n=32) (ht:3≤t) (ht2:t≤2147483647) (hto:t % 2=1) (hc1:1≤count) (hc2:count≤25) :
  Calls Tryz.prog 244 #[.int .i64 n,.int .u32 t,.int .i64 count] w fun e w'=>ChainEnd w.heap.size (chainOf n t count) count e w'∧Below w.heap.size w w':=by
 have HD:=Lib.hid (fun w=>r03dim_walk (n:Int) w (by rcases hn with h | h | h | h<;>subst h<;>simp [IsDim]))
 have hn4:4≤n:=by omega
 have hn32:n≤32:=by omega
 obtain ⟨st,hst⟩:∃ st,2*n*t=st:=⟨_,rfl⟩
 have hst1:1≤st:=by rw [← hst];exact Nat.mul_pos (by omega) (by omega)
 have hst2:st≤64*2147483647:=by rw [← hst];exact Nat.mul_le_mul (by omega) ht2
 have hsti:(2*(n:Int))*(t:Int)=(st:Int):=by rw [← hst];simp
 have HCO:Hid (chainOf n t count=chainL st count (2147483646 / st) []):=Lib.hid (by unfold chainOf;rw [hst])
 have hto':(t:Int) % 2=1:=by omega
 obtain ⟨kk,hkk⟩:∃ kk,2147483646 / st=kk:=⟨_,rfl⟩
 have hkki:(2147483646:Int) / (st:Int)=(kk:Int):=by rw [← hkk];simp
 have hkb:kk≤2147483646:=by rw [← hkk];exact Nat.div_le_self _ _
 have HK0:Hid (kk*st≤2147483646):=Lib.hid (by rw [← hkk];exact Nat.div_mul_le_self _ _)
 rw [hkk] at HCO
 have HKK:=Lib.hid hkki
 clear hn hst hkk hkki
 go_enter Tryz.func244,Tryz.ntmps244
 go_wp2_with fail
 (with_reducible refine Calls.mono (HD.out _) ?_)
 rintro e w1 ⟨rfl,rfl⟩
 clear HD
 go_wp2
 go_loopg [9,10] kk (fun f v9 v10 wr=>∃ (k:Nat) (out:List Nat) (ao:Option Addr) (cap ln:Nat),v9 = .slice ao ln cap∧v10 = .int .u64 k∧k≤f∧k≤2147483646∧ln≤count∧Hid (out.length=ln∧OwU wr w1.heap.size (.slice ao ln cap) out∧chainL st count k out=chainOf n t count∧k*st≤2147483646)∧Hid (Below w1.heap.size w1 wr))
 case atStart=>exact ⟨kk,[],none,0,0,rfl,by rw [HKK.out],Nat.le_refl _,hkb,by omega,Lib.hid ⟨rfl,OwU.nil _ _,HCO.out.symm,HK0.out⟩,Lib.hid (Below.refl _ _)⟩
 case round=>
  obtain ⟨k,out,ao,cap,ln,rfl,rfl,hkf,hk2,hln,HO,HB⟩:=hrel
  obtain ⟨z,hz⟩:∃ z,k*st=z:=⟨_,rfl⟩
  have hzi:(k:Int)*(st:Int)=(z:Int):=by rw [← hz];simp
  have hz2:z≤2147483646:=by rw [← hz];exact HO.out.2.2.2
  have HZ:=Lib.hid hz
  clear hz
  by_cases h1:1073741824<z+1
  case neg=>
   have g1:decide ((1073741824:Int)<(z:Int)+1)=false:=decide_eq_false (by omega)
   have HE:Hid (out=chainOf n t count):=Lib.hid (by rw [← HO.out.2.2.1];exact (chainL_stop (fun h=>h1 (by rw [HZ.out] at h;exact h.1))).symm)
   by_cases h2:ln<count
   ·have g2:decide (ln<count)=true:=decide_eq_true h2
    go_wp2
    go_ret2
    exact ⟨.inl ⟨by rw [← HE.out,HO.out.1];exact h2,rfl⟩,HB.out⟩
   ·have g2:decide (ln<count)=false:=decide_eq_false h2
    obtain ⟨ao',cap',e',hrd,hca,hcm,hab⟩:=HO.out.2.1.shape
    have HR:=Lib.hid hrd
    have HCC:=Lib.hid (And.intro hca (And.intro hcm hab))
    have HL:=Lib.hid HO.out.1
    simp only [Value.slice.injEq] at e'
    obtain ⟨rfl,_,rfl⟩:=e'
    clear hrd hca hcm hab
    go_wp2
    go_ret2
    exact ⟨.inr ⟨_,_,by rw [← HE.out,HL.out];omega,by rw [← HE.out,HL.out];rfl,by rw [← HE.out];exact HR.out,by rw [← HE.out];exact HCC.out⟩,HB.out⟩
  have g1:decide ((1073741824:Int)<(z:Int)+1)=true:=decide_eq_true (by omega)
  by_cases h2:ln<count
  case neg=>
   have HE:Hid (out=chainOf n t count):=Lib.hid (by rw [← HO.out.2.2.1];exact (chainL_stop (fun h=>h2 (by rw [HO.out.1] at h;exact h.2))).symm)
   have g2:decide (ln<count)=false:=decide_eq_false h2
   obtain ⟨ao',cap',e',hrd,hca,hcm,hab⟩:=HO.out.2.1.shape
   have HR:=Lib.hid hrd
   have HCC:=Lib.hid (And.intro hca (And.intro hcm hab))
   have HL:=Lib.hid HO.out.1
   simp only [Value.slice.injEq] at e'
   obtain ⟨rfl,_,rfl⟩:=e'
   clear hrd hca hcm hab
   go_wp2
   go_ret2
   exact ⟨.inr ⟨_,_,by rw [← HE.out,HL.out];omega,by rw [← HE.out,HL.out];rfl,by rw [← HE.out];exact HR.out,by rw [← HE.out];exact HCC.out⟩,HB.out⟩
  have g2:decide (ln<count)=true:=decide_eq_true h2
  have hk0:1≤k:=by
   rcases Nat.eq_zero_or_pos k with h | h
   ·subst h;have:=HZ.out;omega
   ·exact h
  obtain ⟨j,rfl⟩:∃ j,k=j+1:=⟨k - 1,by omega⟩
  have HC:Hid (1073741824<(j+1)*st+1∧out.length<count):=Lib.hid ⟨by rw [HZ.out];exact h1,by rw [HO.out.1];exact h2⟩
  have hzj:((j:Int)+1)*(st:Int)=(z:Int):=by rw [← hzi];simp
  have hP:∀ w,Calls Tryz.prog 196 #[.int .u32 ((z:Int)+1)] w fun e w'=>e = .returned (.bool (tr (PrimeR (z+1))))∧w'=w:=fun w=>rprime_walk (z+1) w (by omega)
  have HP:=Lib.hid hP
  clear hzi hP
  have HJ:Hid (j*st≤2147483646):=Lib.hid (Nat.le_trans (Nat.mul_le_mul_right _ (by omega)) HO.out.2.2.2)
  rw [tr_prime (z+1) (by omega)] at HP
  cases hp:primeB (z+1) with
  | false=>
   rw [hp] at HP
   have HN:Hid (chainL st count j out=chainOf n t count):=Lib.hid (by rw [← HO.out.2.2.1,chainL_no HC.out (by rw [HZ.out];exact hp)])
   have HS:=Lib.hid (And.intro HO.out.1 HO.out.2.1)
   clear hp HO HC
   go_wp2_with fail
   (with_reducible refine Calls.mono (HP.out _) ?_)
   rintro e w2 ⟨rfl,rfl⟩
   go_wp2
   go_roundg j
   case measure=>omega
   case rel=>exact ⟨j,out,ao,cap,ln,rfl,by go_num,Nat.le_refl _,by omega,hln,Lib.hid ⟨HS.out.1,HS.out.2,HN.out,HJ.out⟩,HB⟩
  | true=>
   rw [hp] at HP
   have HN:Hid (chainL st count j (out++[z+1])=chainOf n t count):=Lib.hid (by rw [← HO.out.2.2.1,chainL_yes HC.out (by rw [HZ.out];exact hp),HZ.out])
   have hAl:Below wr.heap.size wr (wr.alloc (.cells #[.int .u32 ((z+1:Nat):Int)] 22)):=(Below.refl _ wr).alloc (Nat.le_refl _) _
   have hOw:OwU (wr.alloc (.cells #[.int .u32 ((z+1:Nat):Int)] 22)) w1.heap.size (.slice ao ln cap) out:=World.ownsRow.alloc HO.out.2.1 _
   obtain ⟨v',w3,hr,hO3,hB3⟩:=hOw.append (by have:=HB.out.size;simp;omega) (by rw [HO.out.1];omega) 23 ⟨wr.heap.size,0,none⟩ 1 (z+1) ((Blk.new wr _ _).cell 0)
   obtain ⟨ao3,cap3,rfl,_,_,_,_⟩:=hO3.shape
   have HL3:Hid ((out++[z+1]).length=ln+1):=Lib.hid (by rw [List.length_append,HO.out.1];rfl)
   have HO3:=Lib.hid hO3
   have HB3:Hid (Below w1.heap.size w1 w3):=Lib.hid ((HB.out.trans (hAl.mono HB.out.size)).trans hB3)
   rw [HL3.out] at hr HO3
   have hr:(Builtin.append_ #[23,23] 23 #[.slice ao ln cap,.slice (some ⟨wr.heap.size,0,none⟩) 1 1]).run Tryz.prog (wr.alloc (.cells #[.int .u32 ((z:Int)+1)] 22)) = .ok (.slice ao3 (ln+1) cap3) w3:=hr
   clear hp HO HC hAl hOw hO3 hB3
   go_wp2_with fail
   (with_reducible refine Calls.mono (HP.out _) ?_)
   rintro e w2 ⟨rfl,rfl⟩
   go_wp2_with (at_builtin;refine Lib.wpList_append_run _ rfl (.tmp 62) (.tmp 68) 23 23 rfl _ _ rfl rfl _ _ hr ?_)
   go_roundg j
   case measure=>omega
   case rel=>exact ⟨j,out++[z+1],ao3,cap3,ln+1,rfl,by go_num,Nat.le_refl _,by omega,by omega,Lib.hid ⟨HL3.out,HO3.out,HN.out,HJ.out⟩,HB3⟩


structure El where
 level:Int
 special:Bool
 rows:List (List Nat)
abbrev El.val (E:El) (ao:Option Addr) (c:Nat):Value:=.agg #[.int .i64 E.level,.bool E.special,.slice ao E.rows.length c]
def El.row (E:El) (i:Nat):List Nat:=E.rows.getD i []
def RdR (w:World) (ao:Option Addr) (rows:List (List Nat)):Prop:=
 ∀ k,k<rows.length→∃ b off,ao=some ⟨b,off,none⟩∧∀ j,j<rows.length→∃ ro rc,w.cell? ⟨b,off+j,none⟩=some (.slice ro (rows.getD j []).length rc)∧Rd w ro (rows.getD j [])∧(rows.getD j []).length≤rc
theorem RdR.nil (w:World) (ao:Option Addr):RdR w ao []:=fun k hk=>by simp at hk
theorem Good.special {p:Par} (h:Good p):1073741824<p.special∧p.special≤2147483647:=by
 obtain ⟨_,_,_,_,_,_,_,h,_⟩:=h
 exact ⟨h.1,h.2.1⟩
theorem Good.chain {p:Par} (h:Good p) {i:Nat} (hi:i<p.chain.length):1073741824<p.chain.getD i 0∧p.chain.getD i 0≤2147483647∧p.chain.getD i 0<p.special:=by
 obtain ⟨_,_,_,_,_,_,_,_,h,_⟩:=h
 exact ⟨(h i hi).1.1,(h i hi).1.2.1,(h i hi).2⟩
theorem Good.len {p:Par} (h:Good p):1≤p.chain.length∧p.chain.length≤24:=⟨h.2.1,h.2.2.1⟩
theorem Good.n {p:Par} (h:Good p):4≤p.n∧p.n≤32:=by rcases h.1 with h | h | h | h<;>omega
end Go.Proofs.YtdcenblblimkfaaGreat
