/- The program's tests of parameters, one by one: the rest.
The program's test whether the primes of a chain are different.
The reference's whole test of parameters. -/
import Derived.Test.YtdcenblblimkfaaGreatPn25
import Derived.Test.YtdcenblblimkfaaGreatPn21
import Derived.Test.YtdcenblblimkfaaGreatPn28
import Derived.Test.YtdcenblblimkfaaGreatPn06
import Derived.Deep.RegionWith
set_option linter.unusedSimpArgs false
set_option linter.unusedVariables false
set_option linter.unnecessarySimpa false
set_option linter.unusedSectionVars false
namespace Go.Proofs.YtdcenblblimkfaaGreat
open Go.RowKit Go.Shelf

theorem dim_bits:∀ n:Nat,n<33→4≤n→(bits .and .i64 (n:Int) ((n:Int) - 1) == 0)=(n == 4 || n == 8 || n == 16 || n == 32):=by decide +kernel
set_option maxHeartbeats 1600000 in
theorem pdim_walk (n:Int) (w:World):Calls Tryz.prog 230 #[.int .i64 n] w fun e w'=>e = .returned (.bool (tr (IsDim n)))∧w'=w:=by
 by_cases h4:4≤n
 case neg=>
  have g:decide ((4:Int)≤n)=false:=decide_eq_false h4
  rw [tr_neg (show ¬ IsDim n from by rintro (h | h | h | h)<;>omega)]
  go_enter Tryz.func230,Tryz.ntmps230
  go_wp2
  go_ret
  exact ⟨rfl,rfl⟩
 have g4:decide ((4:Int)≤n)=true:=decide_eq_true h4
 by_cases h32:n≤32
 case neg=>
  have g:decide (n≤32)=false:=decide_eq_false h32
  rw [tr_neg (show ¬ IsDim n from by rintro (h | h | h | h)<;>omega)]
  go_enter Tryz.func230,Tryz.ntmps230
  go_wp2
  go_ret
  exact ⟨rfl,rfl⟩
 have g32:decide (n≤32)=true:=decide_eq_true h32
 obtain ⟨m,rfl⟩:∃ m:Nat,n=(m:Int):=⟨n.toNat,by omega⟩
 have hb:=dim_bits m (by omega) (by omega)
 obtain ⟨x,hx⟩:∃ x,bits .and .i64 (m:Int) ((m:Int) - 1)=x:=⟨_,rfl⟩
 rw [hx] at hb
 by_cases hd:m=4∨m=8∨m=16∨m=32
 ·have hx0:(x == 0)=true:=by rw [hb];simp;omega
  rw [tr_pos (show IsDim (m:Int) from by unfold IsDim;omega)]
  clear hb hd
  go_enter Tryz.func230,Tryz.ntmps230
  go_wp2
  go_ret
  exact ⟨rfl,rfl⟩
 ·have hx0:(x == 0)=false:=by rw [hb];simp;omega
  rw [tr_neg (show ¬ IsDim (m:Int) from by unfold IsDim;omega)]
  clear hb hd
  go_enter Tryz.func230,Tryz.ntmps230
  go_wp2
  go_ret
  exact ⟨rfl,rfl⟩

set_option maxHeartbeats 800000 in
theorem pc3_walk (b:Nat) (p:Par) (ca:Option Addr) (cc:Nat) (w:World) (hb:Blk w b 25 (p.cells ca cc)) :
  Calls Tryz.prog 234 #[.pointer (some ⟨b,0,none⟩)] w fun e w'=>e = .returned (.bool (tr (1≤p.chain.length∧p.chain.length≤24)))∧Below w.heap.size w w':=by
 have c3:w.cell? ⟨b,3,none⟩=some (.slice ca p.chain.length cc):=hb.cell 3
 obtain ⟨n,hn⟩:∃ n,p.chain.length=n:=⟨_,rfl⟩
 rw [hn] at c3 ⊢
 clear hb hn
 by_cases h1:1≤n
 case neg=>
  have g:decide ((1:Int)≤(n:Int))=false:=decide_eq_false (by omega)
  rw [tr_neg (fun h=>h1 h.1)]
  go_enter Tryz.func234,Tryz.ntmps234
  go_wp2
  go_ret
  exact ⟨rfl,Below.refl _ _⟩
 have g:decide ((1:Int)≤(n:Int))=true:=decide_eq_true (by omega)
 by_cases h2:n≤24
 ·have g2:decide ((n:Int)≤24)=true:=decide_eq_true (by omega)
  rw [tr_pos ⟨h1,h2⟩]
  go_enter Tryz.func234,Tryz.ntmps234
  go_wp2
  go_ret
  exact ⟨rfl,Below.refl _ _⟩
 ·have g2:decide ((n:Int)≤24)=false:=decide_eq_false (by omega)
  rw [tr_neg (fun h=>h2 h.2)]
  go_enter Tryz.func234,Tryz.ntmps234
  go_wp2
  go_ret
  exact ⟨rfl,Below.refl _ _⟩

set_option maxHeartbeats 1600000 in
theorem pc4_walk (b:Nat) (p:Par) (ca:Option Addr) (cc:Nat) (w:World) (hb:Blk w b 25 (p.cells ca cc)) :
  Calls Tryz.prog 235 #[.pointer (some ⟨b,0,none⟩)] w fun e w'=>e = .returned (.bool (tr (1≤p.weight∧p.weight≤p.n∧p.err≤64)))∧Below w.heap.size w w':=by
 have c0:w.cell? ⟨b,0,none⟩=some (.int .i64 p.n):=hb.cell 0
 have c5:w.cell? ⟨b,5,none⟩=some (.int .i64 p.weight):=hb.cell 5
 have c6:w.cell? ⟨b,6,none⟩=some (.int .u32 (p.err:Int)):=hb.cell 6
 obtain ⟨n,hn⟩:∃ n,p.n=n:=⟨_,rfl⟩
 obtain ⟨v,hv⟩:∃ v,p.weight=v:=⟨_,rfl⟩
 obtain ⟨r,hr⟩:∃ r,p.err=r:=⟨_,rfl⟩
 rw [hn] at c0
 rw [hv] at c5
 rw [hr] at c6
 rw [hn,hv,hr]
 clear hb hn hv hr
 by_cases h1:1≤v
 case neg=>
  have g:decide ((1:Int)≤v)=false:=decide_eq_false h1
  rw [tr_neg (fun h=>h1 h.1)]
  go_enter Tryz.func235,Tryz.ntmps235
  go_wp2
  go_ret
  exact ⟨rfl,Below.refl _ _⟩
 have g:decide ((1:Int)≤v)=true:=decide_eq_true h1
 by_cases h2:v≤n
 case neg=>
  have g:decide (v≤n)=false:=decide_eq_false h2
  rw [tr_neg (fun h=>h2 h.2.1)]
  go_enter Tryz.func235,Tryz.ntmps235
  go_wp2
  go_ret
  exact ⟨rfl,Below.refl _ _⟩
 have g2:decide (v≤n)=true:=decide_eq_true h2
 by_cases h3:r≤64
 ·have g3:decide ((r:Int)≤64)=true:=decide_eq_true (by omega)
  rw [tr_pos ⟨h1,h2,h3⟩]
  go_enter Tryz.func235,Tryz.ntmps235
  go_wp2
  go_ret
  exact ⟨rfl,Below.refl _ _⟩
 ·have g3:decide ((r:Int)≤64)=false:=decide_eq_false (by omega)
  rw [tr_neg (fun h=>h3 h.2.2)]
  go_enter Tryz.func235,Tryz.ntmps235
  go_wp2
  go_ret
  exact ⟨rfl,Below.refl _ _⟩

def PrimeAt (w:World) (f s m:Nat):Prop:=w.cell? ⟨f,0,none⟩=some (.func (.func 231) #[] #[.pointer (some ⟨s,0,none⟩)])∧w.cell? ⟨s,0,none⟩=some (.int .i64 m)
theorem PrimeAt.below {w w':World} {f s m:Nat} (h:PrimeAt w f s m) (hb:Below w.heap.size w w'):PrimeAt w' f s m:=
 ⟨(hb.cell (World.block_lt_of_cell? w _ h.1)).trans h.1,(hb.cell (World.block_lt_of_cell? w _ h.2)).trans h.2⟩

set_option maxHeartbeats 800000 in
theorem pc5_walk (b f s m:Nat) (p:Par) (ca:Option Addr) (cc:Nat) (w:World) (hb:Blk w b 25 (p.cells ca cc)) (hf:PrimeAt w f s m) (hm1:1≤m) (hm2:m≤64*2147483647) (hq:p.special≤4294967295) :
  Calls Tryz.prog 236 #[.pointer (some ⟨f,0,none⟩),.pointer (some ⟨b,0,none⟩)] w fun e w'=>e = .returned (.bool (tr (GoodP m p.special)))∧Below w.heap.size w w':=by
 have c4:w.cell? ⟨b,4,none⟩=some (.int .u32 (p.special:Int)):=hb.cell 4
 have cf:=hf.1
 have HC:=Lib.hid (pc1_walk p.special m s w hm1 hm2 hq hf.2)
 have hen:=enters_pc1
 obtain ⟨q,hq'⟩:∃ q,p.special=q:=⟨_,rfl⟩
 rw [hq'] at c4 HC ⊢
 clear hb hf hq'
 go_enter Tryz.func236,Tryz.ntmps236
 go_wp2_with fail
 (with_reducible refine Calls.mono HC.out ?_)
 rintro e w1 ⟨rfl,hb1⟩
 have HB:=Lib.hid hb1
 clear hb1
 go_wp2
 go_ret
 exact ⟨rfl,HB.out⟩

set_option maxHeartbeats 1600000 in
theorem pc61_walk (b f s m q:Nat) (p:Par) (ca:Option Addr) (cc:Nat) (w:World) (hb:Blk w b 25 (p.cells ca cc)) (hf:PrimeAt w f s m) (hm1:1≤m) (hm2:m≤64*2147483647) (hq:q≤4294967295) :
  Calls Tryz.prog 238 #[.int .u32 q,.pointer (some ⟨b,0,none⟩),.pointer (some ⟨f,0,none⟩)] w fun e w'=>e = .returned (.bool (tr (p.special≤q∨¬ GoodP m q)))∧Below w.heap.size w w':=by
 have c4:w.cell? ⟨b,4,none⟩=some (.int .u32 (p.special:Int)):=hb.cell 4
 have cf:=hf.1
 have HC:=Lib.hid (pc1_walk q m s w hm1 hm2 hq hf.2)
 have hen:=enters_pc1
 obtain ⟨z,hz⟩:∃ z,p.special=z:=⟨_,rfl⟩
 rw [hz] at c4 ⊢
 clear hb hf hz
 by_cases h1:z≤q
 ·have g:decide ((z:Int)≤(q:Int))=true:=decide_eq_true (by omega)
  rw [tr_pos (.inl h1)]
  go_enter Tryz.func238,Tryz.ntmps238
  go_wp2
  go_ret
  exact ⟨rfl,Below.refl _ _⟩
 have g:decide ((z:Int)≤(q:Int))=false:=decide_eq_false (by omega)
 by_cases h2:GoodP m q
 ·rw [tr_pos h2] at HC
  rw [tr_neg (fun h=>h.elim h1 (fun k=>k h2))]
  go_enter Tryz.func238,Tryz.ntmps238
  go_wp2_with fail
  (with_reducible refine Calls.mono HC.out ?_)
  rintro e w1 ⟨rfl,hb1⟩
  have HB:=Lib.hid hb1
  clear hb1
  go_wp2
  go_ret
  exact ⟨rfl,HB.out⟩
 ·rw [tr_neg h2] at HC
  rw [tr_pos (.inr h2)]
  go_enter Tryz.func238,Tryz.ntmps238
  go_wp2_with fail
  (with_reducible refine Calls.mono HC.out ?_)
  rintro e w1 ⟨rfl,hb1⟩
  have HB:=Lib.hid hb1
  clear hb1
  go_wp2
  go_ret
  exact ⟨rfl,HB.out⟩

set_option maxHeartbeats 1600000 in
theorem pc6_walk (b f s m:Nat) (p:Par) (ca:Option Addr) (cc:Nat) (w:World) (hb:Blk w b 25 (p.cells ca cc)) (hf:PrimeAt w f s m) (hm1:1≤m) (hm2:m≤64*2147483647)
  (hin:ParIn w p ca cc) (hlen:p.chain.length≤1000000) :
  Calls Tryz.prog 237 #[.pointer (some ⟨b,0,none⟩),.pointer (some ⟨f,0,none⟩)] w fun e w'=>e = .returned (.bool (!p.chain.any fun q=>tr (p.special≤q∨¬ GoodP m q)))∧Below w.heap.size w w':=by
 have c3:w.cell? ⟨b,3,none⟩=some (.slice ca p.chain.length cc):=hb.cell 3
 have HC:=Lib.hid (containsF_walk ca cc p.chain w 238 #[.pointer (some ⟨b,0,none⟩),.pointer (some ⟨f,0,none⟩)] (fun q=>tr (p.special≤q∨¬ GoodP m q)) hin.rd hlen enters_pc61
  (fun k wr hk hB=>(pc61_walk b f s m (p.chain.getD k 0) p ca cc wr (hb.below hB) (hf.below hB) hm1 hm2 (hin.chain k hk)).mono fun e w' ⟨h1,h2⟩=>⟨h1,below_step hB h2⟩))
 obtain ⟨n,hn⟩:∃ n,p.chain.length=n:=⟨_,rfl⟩
 rw [hn] at c3 HC
 clear hb hf hin hlen
 obtain ⟨r,hr⟩:∃ r,(p.chain.any fun q=>tr (p.special≤q∨¬ GoodP m q))=r:=⟨_,rfl⟩
 rw [hr] at HC ⊢
 clear hr
 go_enter Tryz.func237,Tryz.ntmps237
 go_wp2_with fail
 (with_reducible refine Calls.mono HC.out ?_)
 rintro e w1 ⟨rfl,hb1⟩
 have HB:=Lib.hid hb1
 clear hb1
 go_wp2
 go_ret
 exact ⟨rfl,HB.out⟩


def Distinct (l:List Nat):Prop:=∀ i j,i<j→j<l.length→l.getD i 0≠l.getD j 0
theorem distinct_iff (l:List Nat):Distinct l↔(arrOf l).toList.Nodup:=by
 unfold Distinct
 have e:(arrOf l).toList=l.map Int.ofNat:=by simp [arrOf]
 rw [e]
 unfold List.Nodup
 rw [List.pairwise_map,List.pairwise_iff_getElem]
 constructor
 ·intro h i j hi hj hij
  have:=h i j hij hj
  simp only [List.getD_eq_getElem?_getD,List.getElem?_eq_getElem hi,List.getElem?_eq_getElem hj,Option.getD_some] at this
  exact fun e=>this (Int.ofNat.inj e)
 ·intro h i j hij hj
  have hi:i<l.length:=by omega
  have:=h i j hi hj hij
  simp only [List.getD_eq_getElem?_getD,List.getElem?_eq_getElem hi,List.getElem?_eq_getElem hj,Option.getD_some]
  exact fun e=>this (by simp [e])
theorem adjacent_iff {d d':Array Int} {n:Nat} (hd:d.size=n) (hP:Sort.PermIn 0 n d d') (hS:Sort.SortedIn Sort.ltInt 0 n d') :
  (∀ k,1≤k→k<n→d'[k]!≠d'[k - 1]!)↔d.toList.Nodup:=by
 have hd':d'.size=n:=hP.1.trans hd
 have hp:d'.toList.Perm d.toList:=by
  have h:=hP.2.2
  rw [← hd'] at h
  rw [hd',← hd] at h
  have e1:d'.extract 0 d.size=d':=by rw [show d.size=d'.size by omega];simp
  have e2:d.extract 0 d.size=d:=by simp
  rw [e1,e2] at h
  exact h
 rw [← hp.nodup_iff]
 unfold List.Nodup
 rw [List.pairwise_iff_getElem]
 have hle:∀ i j,i≤j→j<n→d'[i]!≤d'[j]!:=by
  intro i j hij hj
  rcases Nat.lt_or_eq_of_le hij with h | h
  ·have:=hS i j (Nat.zero_le _) h hj
   unfold Sort.ltInt at this
   have:=of_decide_eq_false this
   omega
  ·subst h;omega
 constructor
 ·intro h i j hi hj hij
  simp only [Array.length_toList] at hi hj
  have h1:=hle i (j - 1) (by omega) (by omega)
  have h2:=hle (j - 1) j (by omega) (by omega)
  have h3:=h j (by omega) (by omega)
  rw [Array.getElem_toList,Array.getElem_toList,← getElem!_pos d' i hi,← getElem!_pos d' j hj]
  omega
 ·intro h k h1 h2
  have:=h (k - 1) k (by simp;omega) (by simp;omega) (by omega)
  rw [Array.getElem_toList,Array.getElem_toList,← getElem!_pos d' (k - 1) (by omega),← getElem!_pos d' k (by omega)] at this
  exact fun e=>this e.symm

set_option maxHeartbeats 3200000 in
set_option maxRecDepth 100000 in
theorem pc7_walk (b:Nat) (p:Par) (ca:Option Addr) (cc:Nat) (w:World) (hb:Blk w b 25 (p.cells ca cc)) (hin:ParIn w p ca cc) (h1:1≤p.chain.length) (h24:p.chain.length≤24) :
  Calls Tryz.prog 239 #[.pointer (some ⟨b,0,none⟩)] w fun e w'=>e = .returned (.bool (tr (Distinct p.chain)))∧Below w.heap.size w w':=by
 have c3:w.cell? ⟨b,3,none⟩=some (.slice ca p.chain.length cc):=hb.cell 3
 have hlt:b<w.heap.size:=hb.lt
 have HC:=Lib.hid (clone_walk ca cc p.chain w hin.rd h1 (by omega))
 obtain ⟨n,hn⟩:∃ n,p.chain.length=n:=⟨_,rfl⟩
 have HSZ:Hid ((arrOf p.chain).size=n):=Lib.hid (by rw [arrOf_size];exact hn)
 rw [hn] at c3 h1 h24 HC
 have HB:=Lib.hid hb
 clear hb hin hn
 go_enter Tryz.func239,Tryz.ntmps239
 go_wp2_with fail
 (with_reducible refine Calls.mono HC.out ?_)
 rintro e w1 ⟨g,cap,rfl,hg,hcap,hcap2,hA,hT⟩
 have HT1:=Lib.hid hT
 have hs:=sort_walk g cap (arrOf p.chain) w1 hA (by rw [HSZ.out];omega)
 rw [HSZ.out] at hs
 have HS:=Lib.hid hs
 clear hT hA hs HC
 go_wp2_with fail
 (with_reducible refine Calls.mono HS.out ?_)
 rintro e w2 ⟨rfl,d',hA,⟨hP,hSo⟩,hT⟩
 have HA:Hid (Arr w2.drew g d'):=Lib.hid hA.drew
 have HT2a:Turn w w2 []:=HT1.out.new hT (fun j hj=>.inl (by simp at hj;omega))
 have HT2:Hid (Turn w w2.drew []):=Lib.hid HT2a.drew
 have hd':d'.size=n:=hP.1.trans HSZ.out
 have HD:=Lib.hid hd'
 have HIFF:=Lib.hid ((adjacent_iff HSZ.out hP hSo).trans (distinct_iff p.chain).symm)
 have c3':w2.drew.cell? ⟨b,3,none⟩=some (.slice ca n cc):=HT2.out.cell c3 (by simp)
 clear hA hT hP hSo hd' HS HT1 c3 HT2a
 go_wp2_with fail
 go_region_with (go_at_call 242;refine (compact_walk g cap n d' w2.drew HA.out HD.out hcap hcap2).mono ?_;rintro e w3 ⟨m,c,rfl,hm,hT⟩;have c3'':w3.cell? ⟨b,3,none⟩=some (.slice ca n cc):=hT.cell c3' (by simp;omega);have HM:=Lib.hid hm;have HT:=Lib.hid hT;clear hm hT)
 all_goals (
  have hE:((m:Int) == (n:Int))=tr (Distinct p.chain):=by
   by_cases hmn:m=n
   ·have hd:Distinct p.chain:=HIFF.out.1 (HM.out.1 hmn)
    rw [tr_pos hd,hmn]
    simp
   ·have hd:¬ Distinct p.chain:=fun h=>hmn (HM.out.2 (HIFF.out.2 h))
    rw [tr_neg hd]
    simp
    omega
  go_wp2
  go_ret
  refine ⟨congrArg (fun b=>Ending.returned (.bool b)) hE,(HT2.out.new HT.out ?_).below⟩
  intro j hj
  simp at hj
  omega)


def RfI (w wr:World) (p:Par) (m:Nat) (k:Nat):Prop:=Below w.heap.size w wr∧(∀ i,i<k→GoodQ m (p.chain.getD i 0)∧p.chain.getD i 0<p.special)∧∀ i j,i<j→j<k→p.chain.getD i 0≠p.chain.getD j 0
def RfJ (w wr:World) (p:Par) (m:Nat) (k h:Nat):Prop:=RfI w wr p m k∧(GoodQ m (p.chain.getD k 0)∧p.chain.getD k 0<p.special)∧∀ i,i<h→p.chain.getD i 0≠p.chain.getD k 0
theorem RfI.start (w:World) (p:Par) (m:Nat):RfI w w p m 0:=⟨Below.refl _ _,fun i h=>absurd h (Nat.not_lt_zero i),fun _ j _ h=>absurd h (Nat.not_lt_zero j)⟩
theorem RfI.inner {w wr:World} {p:Par} {m k:Nat} (h:RfI w wr p m k) (hg:GoodQ m (p.chain.getD k 0)) (hs:p.chain.getD k 0<p.special) (n:Nat):RfJ w (wr.drewN n) p m k 0:=
 ⟨⟨below_step h.1 ((Turn.refl wr []).drewN n).below,h.2⟩,⟨hg,hs⟩,fun i h=>absurd h (Nat.not_lt_zero i)⟩
theorem RfJ.step {w wr:World} {p:Par} {m k h:Nat} (H:RfJ w wr p m k h) (hne:p.chain.getD h 0≠p.chain.getD k 0) (n:Nat):RfJ w (wr.drewN n) p m k (h+1):=
 ⟨⟨below_step H.1.1 ((Turn.refl wr []).drewN n).below,H.1.2⟩,H.2.1,fun i hi=>by
  rcases Nat.lt_or_eq_of_le (Nat.le_of_lt_succ hi) with hh | rfl
  ·exact H.2.2 i hh
  ·exact hne⟩
theorem RfJ.outer {w wr:World} {p:Par} {m k:Nat} (H:RfJ w wr p m k k):RfI w wr p m (k+1):=
 ⟨H.1.1,fun i hi=>by
  rcases Nat.lt_or_eq_of_le (Nat.le_of_lt_succ hi) with hh | rfl
  ·exact H.1.2.1 i hh
  ·exact H.2.1,fun i j hij hj=>by
  rcases Nat.lt_or_eq_of_le (Nat.le_of_lt_succ hj) with hh | rfl
  ·exact H.1.2.2 i j hij hh
  ·exact H.2.2 i hij⟩

set_option maxHeartbeats 12800000 in
set_option maxRecDepth 100000 in
theorem r12check_walk (p:Par) (ca:Option Addr) (cc:Nat) (w:World) (hin:ParIn w p ca cc) :
  Calls Tryz.prog 41 #[.agg (p.cells ca cc)] w fun e w'=>e = .returned (.int .i64 (chk (Good p)))∧Below w.heap.size w w':=by
 have HD:=Lib.hid (r12dim_walk p.n (w.alloc (.cells (p.cells ca cc) 25)))
 have HW:Hid (Below w.heap.size w (w.alloc (.cells (p.cells ca cc) 25))):=Lib.hid ((Below.refl _ w).alloc (Nat.le_refl _) _)
 obtain ⟨n,hn⟩:∃ n,p.n=n:=⟨_,rfl⟩
 obtain ⟨l,hl⟩:∃ l,p.chain.length=l:=⟨_,rfl⟩
 obtain ⟨v,hv⟩:∃ v,p.weight=v:=⟨_,rfl⟩
 obtain ⟨r,hr⟩:∃ r,p.err=r:=⟨_,rfl⟩
 have HG0:Hid (Good p=Good p):=rfl
 have hll:=hin.len
 unfold Par.cells at HD HW ⊢
 have HBk:Hid (Blk (w.alloc (.cells #[.int .i64 p.n,.int .u32 (p.prime:Int),.int .i64 p.power,.slice ca p.chain.length cc,.int .u32 (p.special:Int),.int .i64 p.weight,.int .u32 (p.err:Int)] 25)) w.heap.size 25
  #[.int .i64 p.n,.int .u32 (p.prime:Int),.int .i64 p.power,.slice ca p.chain.length cc,.int .u32 (p.special:Int),.int .i64 p.weight,.int .u32 (p.err:Int)]):=Lib.hid (Blk.new _ _ _)
 have hGd:Good p→IsDim n:=fun h=>hn▸h.1
 have hG1:Good p→1≤l:=fun h=>hl▸h.2.1
 have hG24:Good p→l≤24:=fun h=>hl▸h.2.2.1
 have hGv:Good p→1≤v:=fun h=>hv▸h.2.2.2.1
 have hGvn:Good p→v≤n:=fun h=>hv▸hn▸h.2.2.2.2.1
 have hGr:Good p→r≤64:=fun h=>hr▸h.2.2.2.2.2.1
 have HGp:Hid (Good p→PlainOk p.n.toNat p.prime p.power):=Lib.hid fun h=>h.2.2.2.2.2.2.1
 rw [hn,hl,hv,hr] at HD HW HBk
 rw [hn,hl,hv,hr]
 rw [hl] at hll
 by_cases hd:IsDim n
 case neg=>
  rw [chk_neg (fun h=>hd (hGd h))]
  rw [tr_neg hd] at HD
  clear hin hn hl hv hr hd hGd hG1 hG24 hGv hGvn hGr hll HGp
  go_enter Tryz.func41,Tryz.ntmps41
  go_wp2_with fail
  (with_reducible refine Calls.mono HD.out ?_)
  rintro e w1 ⟨rfl,rfl⟩
  go_wp2
  go_ret
  exact ⟨rfl,HW.out⟩
 rw [tr_pos hd] at HD
 by_cases h1:1≤l
 case neg=>
  rw [chk_neg (fun h=>h1 (hG1 h))]
  have g1:decide ((l:Int)<1)=true:=decide_eq_true (by omega)
  clear hin hn hl hv hr hd hGd hG1 hG24 hGv hGvn hGr HGp
  go_enter Tryz.func41,Tryz.ntmps41
  go_wp2_with fail
  (with_reducible refine Calls.mono HD.out ?_)
  rintro e w1 ⟨rfl,rfl⟩
  go_wp2
  go_ret
  exact ⟨rfl,HW.out⟩
 have g1:decide ((l:Int)<1)=false:=decide_eq_false (by omega)
 by_cases h24:l≤24
 case neg=>
  rw [chk_neg (fun h=>h24 (hG24 h))]
  have g2:decide ((24:Int)<l)=true:=decide_eq_true (by omega)
  clear hin hn hl hv hr hd hGd hG1 hG24 hGv hGvn hGr HGp
  go_enter Tryz.func41,Tryz.ntmps41
  go_wp2_with fail
  (with_reducible refine Calls.mono HD.out ?_)
  rintro e w1 ⟨rfl,rfl⟩
  go_wp2
  go_ret
  exact ⟨rfl,HW.out⟩
 have g2:decide ((24:Int)<l)=false:=decide_eq_false (by omega)
 by_cases hv1:1≤v
 case neg=>
  rw [chk_neg (fun h=>hv1 (hGv h))]
  have g3:decide (v<1)=true:=decide_eq_true (by omega)
  clear hin hn hl hv hr hd hGd hG1 hG24 hGv hGvn hGr HGp
  go_enter Tryz.func41,Tryz.ntmps41
  go_wp2_with fail
  (with_reducible refine Calls.mono HD.out ?_)
  rintro e w1 ⟨rfl,rfl⟩
  go_wp2
  go_ret
  exact ⟨rfl,HW.out⟩
 have g3:decide (v<1)=false:=decide_eq_false (by omega)
 by_cases hvn:v≤n
 case neg=>
  rw [chk_neg (fun h=>hvn (hGvn h))]
  have g4:decide (n<v)=true:=decide_eq_true (by omega)
  clear hin hn hl hv hr hd hGd hG1 hG24 hGv hGvn hGr HGp
  go_enter Tryz.func41,Tryz.ntmps41
  go_wp2_with fail
  (with_reducible refine Calls.mono HD.out ?_)
  rintro e w1 ⟨rfl,rfl⟩
  go_wp2
  go_ret
  exact ⟨rfl,HW.out⟩
 have g4:decide (n<v)=false:=decide_eq_false (by omega)
 by_cases hr64:r≤64
 case neg=>
  rw [chk_neg (fun h=>hr64 (hGr h))]
  have g5:decide ((64:Int)<(r:Int))=true:=decide_eq_true (by omega)
  clear hin hn hl hv hr hd hGd hG1 hG24 hGv hGvn hGr HGp
  go_enter Tryz.func41,Tryz.ntmps41
  go_wp2_with fail
  (with_reducible refine Calls.mono HD.out ?_)
  rintro e w1 ⟨rfl,rfl⟩
  go_wp2
  go_ret
  exact ⟨rfl,HW.out⟩
 have g5:decide ((64:Int)<(r:Int))=false:=decide_eq_false (by omega)
 have hN:((n.toNat:Nat):Int)=n:=Int.toNat_of_nonneg (by rcases hd with h | h | h | h<;>omega)
 have hNc:n.toNat=4∨n.toNat=8∨n.toNat=16∨n.toNat=32:=by rcases hd with h | h | h | h<;>omega
 have hP:=r12plain_walk n.toNat p.prime p.power (w.alloc (.cells #[.int .i64 n,.int .u32 (p.prime:Int),.int .i64 p.power,.slice ca l cc,.int .u32 (p.special:Int),.int .i64 v,.int .u32 (r:Int)] 25)) hNc hin.prime hin.power1 hin.power2
 rw [hN] at hP
 rw [hn] at HGp
 obtain ⟨t,ht⟩:∃ t,plainV n.toNat p.prime p.power=t:=⟨_,rfl⟩
 have ht2:t≤2147483647:=by rw [← ht];exact plainV_le _ _ _
 have htp:PlainOk n.toNat p.prime p.power↔0<t:=by rw [← ht];exact (plainV_iff _ _ _).symm
 have HTP:=Lib.hid htp
 rw [ht] at hP
 have HP:=Lib.hid hP
 by_cases ht0:0<t
 case neg=>
  have g6:((t:Int) == 0)=true:=by simp;omega
  have HG:Hid (chk (Good p)=2):=Lib.hid (chk_neg (fun h=>ht0 (HTP.out.1 (HGp.out h))))
  clear hin hn hl hv hr hd hGd hG1 hG24 hGv hGvn hGr HGp ht0 ht htp hP
  go_enter Tryz.func41,Tryz.ntmps41
  go_wp2_with fail
  (with_reducible refine Calls.mono HD.out ?_)
  rintro e w1 ⟨rfl,rfl⟩
  go_wp2_with fail
  (with_reducible refine Calls.mono HP.out ?_)
  rintro e w1 ⟨rfl,rfl⟩
  go_wp2
  go_ret
  rw [HG.out]
  exact ⟨rfl,HW.out⟩
 have g6:((t:Int) == 0)=false:=by simp;omega
 obtain ⟨m,hm⟩:∃ m,2*n.toNat*t=m:=⟨_,rfl⟩
 have hg:=fun q (hq:q≤4294967295) wr=>r12good_walk n.toNat t q wr (by omega) (by omega) ht0 ht2 hq
 rw [hN,hm] at hg
 obtain ⟨s,hs⟩:∃ s,p.special=s:=⟨_,rfl⟩
 have hS:=hg p.special hin.special (w.alloc (.cells #[.int .i64 n,.int .u32 (p.prime:Int),.int .i64 p.power,.slice ca l cc,.int .u32 (p.special:Int),.int .i64 v,.int .u32 (r:Int)] 25))
 rw [hs] at HD HW HBk HP hS
 rw [hs]
 have HS:=Lib.hid hS
 have HGs:Hid (Good p→GoodQ m s):=Lib.hid (fun h=>by have:=h.2.2.2.2.2.2.2.1;rw [hn,ht,hm,hs] at this;exact this)
 by_cases hgs:GoodQ m s
 case neg=>
  have HG:Hid (chk (Good p)=2):=Lib.hid (chk_neg (fun h=>hgs (HGs.out h)))
  rw [tr_neg hgs] at HS
  clear hin hn hl hv hr hd hGd hG1 hG24 hGv hGvn hGr HGp ht0 ht htp hP hS hg hm hs hgs
  go_enter Tryz.func41,Tryz.ntmps41
  go_wp2_with fail
  (with_reducible refine Calls.mono HD.out ?_)
  rintro e w1 ⟨rfl,rfl⟩
  go_wp2_with fail
  (with_reducible refine Calls.mono HP.out ?_)
  rintro e w1 ⟨rfl,rfl⟩
  go_wp2_with fail
  (with_reducible refine Calls.mono HS.out ?_)
  rintro e w1 ⟨rfl,rfl⟩
  go_wp2
  go_ret
  rw [HG.out]
  exact ⟨rfl,HW.out⟩
 rw [tr_pos hgs] at HS
 have HGA:Hid ((∀ i,i<l→GoodQ m (p.chain.getD i 0)∧p.chain.getD i 0<s)∧(∀ i j,i<j→j<l→p.chain.getD i 0≠p.chain.getD j 0)↔Good p):=by
  refine Lib.hid ⟨fun h=>?_,fun h=>?_⟩
  ·unfold Good
   rw [hn,hl,hv,hr,ht,hm,hs]
   exact ⟨hd,h1,h24,hv1,hvn,hr64,htp.2 ht0,hgs,h.1,h.2⟩
  ·unfold Good at h
   rw [hn,hl,hv,hr,ht,hm,hs] at h
   exact ⟨h.2.2.2.2.2.2.2.2.1,h.2.2.2.2.2.2.2.2.2⟩
 obtain ⟨W1,hW1⟩:∃ W1,(w.alloc (.cells #[.int .i64 n,.int .u32 (p.prime:Int),.int .i64 p.power,.slice ca l cc,.int .u32 (s:Int),.int .i64 v,.int .u32 (r:Int)] 25))=W1:=⟨_,rfl⟩
 have HBW:=HBk
 have HWW:=HW
 rw [hW1] at HBW HWW
 have HW1:=Lib.hid hW1
 have HIN:=Lib.hid hin
 have HL:=Lib.hid hl
 have HGX:=Lib.hid hg
 have HSP:=Lib.hid hs
 have hs32:s≤4294967295:=by rw [← hs];exact hin.special
 clear hin hn hl hv hr hd hGd hG1 hG24 hGv hGvn hGr HGp ht htp hP hS hg hm hs hgs hW1 HTP HGs HBk HW HG0 hN
 go_enter Tryz.func41,Tryz.ntmps41
 go_wp2_with fail
 (with_reducible refine Calls.mono HD.out ?_)
 rintro e w1 ⟨rfl,rfl⟩
 go_wp2_with fail
 (with_reducible refine Calls.mono HP.out ?_)
 rintro e w1 ⟨rfl,rfl⟩
 go_wp2_with fail
 (with_reducible refine Calls.mono HS.out ?_)
 rintro e w1 ⟨rfl,rfl⟩
 go_wp2
 clear HD HP HS
 go_loopg [4] l (fun k vi wr=>∃ i:Nat,vi = .int .i64 i∧i≤l∧l - i≤k∧Hid (RfI W1 wr p m i))
 case atStart=>
  rw [HW1.out]
  exact ⟨0,rfl,by omega,by omega,Lib.hid (RfI.start _ _ _)⟩
 case round=>
  obtain ⟨i,rfl,hi,hk,HI⟩:=hrel
  have HBr:=Lib.hid (HBW.out.below HI.out.1)
  have c3:wr.cell? ⟨w.heap.size,3,none⟩=some (.slice ca l cc):=HBr.out.cell 3
  by_cases hlt:i<l
  case neg=>
   obtain rfl:i=l:=by omega
   have HG:Hid (chk (Good p)=0):=Lib.hid (chk_pos (HGA.out.1 ⟨fun i hi=>by have:=HI.out.2.1 i hi;rw [HSP.out] at this;exact this,HI.out.2.2⟩))
   go_wp2
   go_ret
   rw [HG.out]
   exact ⟨rfl,below_step HWW.out HI.out.1⟩
  have c0:wr.cell? ⟨w.heap.size,0,none⟩=some (.int .i64 n):=HBr.out.cell 0
  have c4:wr.cell? ⟨w.heap.size,4,none⟩=some (.int .u32 (s:Int)):=HBr.out.cell 4
  have hin1:=HIN.out.below HWW.out
  obtain ⟨b,off,rfl,hc⟩:=(hin1.rd.below HI.out.1) i (by rw [HL.out];exact hlt)
  rw [HL.out] at hc
  have HCH:=Lib.hid hc
  have ci:=hc i hlt
  have hx32:=hin1.chain i (by rw [HL.out];exact hlt)
  obtain ⟨x,hx⟩:∃ x,p.chain.getD i 0=x:=⟨_,rfl⟩
  rw [hx] at ci hx32
  have HX:=Lib.hid hx
  have hgx:=fun wr=>HGX.out x hx32 wr
  clear hin1 hc hx
  by_cases hgq:GoodQ m x
  case neg=>
   have HG:Hid (chk (Good p)=2):=Lib.hid (chk_neg (fun h=>hgq (by have:=((HGA.out.2 h).1 i hlt).1;rw [HX.out] at this;exact this)))
   rw [tr_neg hgq] at hgx
   have HC:=Lib.hid hgx
   clear hgx
   go_wp2
   go_quiet ((go_at_call 120;exact Calls.quiet_of_same ((HC.out _).mono fun e w' ⟨h1,h2⟩=>⟨h1,h2.symm⟩)))
   go_wp2
   go_ret
   rw [HG.out]
   exact ⟨rfl,below_step (below_step HWW.out HI.out.1) ((Turn.refl wr []).drewN _).below⟩
  rw [tr_pos hgq] at hgx
  have HC:=Lib.hid hgx
  clear hgx
  by_cases hsx:s≤x
  ·have HG:Hid (chk (Good p)=2):=Lib.hid (chk_neg (fun h=>by have:=((HGA.out.2 h).1 i hlt).2;rw [HX.out] at this;omega))
   have gx:decide ((s:Int)≤(x:Int))=true:=decide_eq_true (by omega)
   go_wp2
   go_quiet ((go_at_call 120;exact Calls.quiet_of_same ((HC.out _).mono fun e w' ⟨h1,h2⟩=>⟨h1,h2.symm⟩)))
   go_wp2
   go_ret
   rw [HG.out]
   exact ⟨rfl,below_step (below_step HWW.out HI.out.1) ((Turn.refl wr []).drewN _).below⟩
  have gx:decide ((s:Int)≤(x:Int))=false:=decide_eq_false (by omega)
  go_wp2
  go_quiet ((go_at_call 120;exact Calls.quiet_of_same ((HC.out _).mono fun e w' ⟨h1,h2⟩=>⟨h1,h2.symm⟩)))
  go_wp2
  have HI2:Hid (∀ n,RfJ W1 (wr.drewN n) p m i 0):=Lib.hid (fun n=>HI.out.inner (by rw [HX.out];exact hgq) (by rw [HX.out,HSP.out];omega) n)
  clear HC hgq hsx gx c0 c3 c4 ci HBr HCH HI
  go_loopg [5] i (fun k vj wq=>∃ j:Nat,vj = .int .i64 j∧j≤i∧i - j≤k∧Hid (RfJ W1 wq p m i j))
  case atStart=>exact ⟨0,rfl,by omega,by omega,Lib.hid (HI2.out _)⟩
  case round=>
   obtain ⟨j,rfl,hj,hk2,HJ⟩:=hrel
   by_cases hji:j<i
   case neg=>
    obtain rfl:j=i:=by omega
    have HI3:=Lib.hid HJ.out.outer
    go_wp2
    go_roundg (l - (j+1))
    case measure=>omega
    case rel=>exact ⟨j+1,by go_num,by omega,Nat.le_refl _,HI3⟩
   have HBq:=Lib.hid (HBW.out.below HJ.out.1.1)
   have c3:wr.cell? ⟨w.heap.size,3,none⟩=some (.slice (some ⟨b,off,none⟩) l cc):=HBq.out.cell 3
   obtain ⟨b',off',e',hc⟩:=((HIN.out.below HWW.out).rd.below HJ.out.1.1) i (by rw [HL.out];exact hlt)
   cases e'
   rw [HL.out] at hc
   have ci:=hc i hlt
   have cj:=hc j (by omega)
   rw [HX.out] at ci
   obtain ⟨y,hy⟩:∃ y,p.chain.getD j 0=y:=⟨_,rfl⟩
   rw [hy] at cj
   have HY:=Lib.hid hy
   clear hc hy
   by_cases hxy:y=x
   ·have HG:Hid (chk (Good p)=2):=Lib.hid (chk_neg (fun h=>(HGA.out.2 h).2 j i hji hlt (by rw [HX.out,HY.out];exact hxy)))
    have gy:((y:Int) == (x:Int))=true:=by simp;omega
    go_wp2
    go_quiet (fail)
    go_wp2
    go_ret
    rw [HG.out]
    exact ⟨rfl,below_step (below_step HWW.out HJ.out.1.1) ((Turn.refl wr []).drewN _).below⟩
   ·have gy:((y:Int) == (x:Int))=false:=by simp;omega
    go_wp2
    go_quiet (fail)
    go_wp2
    go_roundg (i - (j+1))
    case measure=>omega
    case rel=>exact ⟨j+1,by go_num,by omega,Nat.le_refl _,Lib.hid (HJ.out.step (by rw [HX.out,HY.out];exact hxy) _)⟩
end Go.Proofs.YtdcenblblimkfaaGreat
