/- The program's whole test of parameters. -/
import Derived.Test.YtdcenblblimkfaaGreatPn29
import Derived.Test.YtdcenblblimkfaaGreatPn25
import Derived.Laws.EntriesVeiled
set_option linter.unusedSimpArgs false
set_option linter.unusedVariables false
set_option linter.unnecessarySimpa false
set_option linter.unusedSectionVars false
namespace Go.Proofs.YtdcenblblimkfaaGreat
open Go.RowKit Go.Shelf

def Six (p:Par):Nat→Prop
 | 0=>0<plainV p.n.toNat p.prime p.power
 | 1=>1≤p.chain.length∧p.chain.length≤24
 | 2=>1≤p.weight∧p.weight≤p.n∧p.err≤64
 | 3=>GoodP (2*p.n.toNat*plainV p.n.toNat p.prime p.power) p.special
 | 4=>∀ i,i<p.chain.length→¬ (p.special≤p.chain.getD i 0∨¬ GoodP (2*p.n.toNat*plainV p.n.toNat p.prime p.power) (p.chain.getD i 0))
 | _=>Distinct p.chain
theorem six_iff (p:Par) (hd:IsDim p.n):(∀ i,i<6→Six p i)↔Good p:=by
 have h8:∀ t,(2*p.n.toNat*t) % 8=0:=by
  intro t
  have e:∃ z,2*p.n.toNat=8*z:=by
   rcases hd with h | h | h | h
   ·exact ⟨1,by omega⟩
   ·exact ⟨2,by omega⟩
   ·exact ⟨4,by omega⟩
   ·exact ⟨8,by omega⟩
  obtain ⟨z,hz⟩:=e
  rw [hz,Nat.mul_assoc]
  exact Nat.mul_mod_right _ _
 constructor
 ·intro h
  have h0:=h 0 (by omega)
  have h1:=h 1 (by omega)
  have h2:=h 2 (by omega)
  have h3:=h 3 (by omega)
  have h4:=h 4 (by omega)
  have h5:=h 5 (by omega)
  refine ⟨hd,h1.1,h1.2,h2.1,h2.2.1,h2.2.2,(plainV_iff _ _ _).1 h0,(goodP_iff (h8 _)).1 h3,?_,h5⟩
  intro i hi
  have:=h4 i hi
  refine ⟨?_,?_⟩
  ·by_cases k:GoodP (2*p.n.toNat*plainV p.n.toNat p.prime p.power) (p.chain.getD i 0)
   ·exact (goodP_iff (h8 _)).1 k
   ·exact absurd (.inr k) this
  ·by_cases k:p.special≤p.chain.getD i 0
   ·exact absurd (.inl k) this
   ·omega
 ·rintro ⟨_,a1,a2,b1,b2,b3,c,d,e,f⟩ i hi
  have:i=0∨i=1∨i=2∨i=3∨i=4∨i=5:=by omega
  rcases this with rfl | rfl | rfl | rfl | rfl | rfl
  ·exact (plainV_iff _ _ _).2 c
  ·exact ⟨a1,a2⟩
  ·exact ⟨b1,b2,b3⟩
  ·exact (goodP_iff (h8 _)).2 d
  ·intro i hi h
   have:=e i hi
   rcases h with h | h
   ·omega
   ·exact h ((goodP_iff (h8 _)).2 this.1)
  ·exact f
def PcI (w wr:World) (p:Par) (k:Nat):Prop:=Below w.heap.size w wr∧∀ i,i<k→Six p i
theorem PcI.start (w:World) (p:Par):PcI w w p 0:=⟨Below.refl _ _,fun i h=>absurd h (Nat.not_lt_zero i)⟩
theorem PcI.step {w wr w':World} {p:Par} {k:Nat} (h:PcI w wr p k) (hb:Below wr.heap.size wr w') (hs:Six p k):PcI w w' p (k+1):=
 ⟨below_step h.1 hb,fun i hi=>by
  rcases Nat.lt_or_eq_of_le (Nat.le_of_lt_succ hi) with hh | rfl
  ·exact h.2 i hh
  ·exact hs⟩

def Tests (w4:World) (g:Nat) (p:Par):Prop:=∀ i wr,i<6→(∀ j,j<i→Six p j)→Below w4.heap.size w4 wr→∃ fn caps,wr.cell? ⟨g,i,none⟩=some (.func (.func fn) #[] caps) ∧
 (∀ args w,(callFunc fn args).run Tryz.prog w = .ok (.enter fn args) w)∧Calls Tryz.prog fn caps wr (fun e w'=>e = .returned (.bool (tr (Six p i)))∧Below wr.heap.size wr w')
theorem not_any {l:List Nat} {X:Nat→Prop}:(!l.any fun q=>tr (X q))=tr (∀ i,i<l.length→¬ X (l.getD i 0)):=by
 by_cases h:∀ i,i<l.length→¬ X (l.getD i 0)
 ·rw [tr_pos h,any_none (fun j hj=>tr_neg (h j hj))]
  rfl
 ·rw [tr_neg h]
  have:∃ i,i<l.length∧X (l.getD i 0):=by
   by_cases k:∃ i,i<l.length∧X (l.getD i 0)
   ·exact k
   ·exact absurd (fun i hi hx=>k ⟨i,hi,hx⟩) h
  obtain ⟨i,hi,hx⟩:=this
  rw [any_some hi (tr_pos hx)]
  rfl
theorem tests_of {w4:World} {b bt bs bf ba t m:Nat} {ty:TypeId} {p:Par} {ca:Option Addr} {cc:Nat} (hB:Blk w4 b 25 (p.cells ca cc)) (hin:ParIn w4 p ca cc)
  (ht:w4.cell? ⟨bt,0,none⟩=some (.int .i64 t)) (hF:PrimeAt w4 bf bs m) (hT:plainV p.n.toNat p.prime p.power=t) (hM:2*p.n.toNat*t=m) (hm2:m≤64*2147483647) (hn4:4≤p.n)
  (hA:Blk w4 ba ty #[.func (.func 233) #[] #[.pointer (some ⟨bt,0,none⟩)],.func (.func 234) #[] #[.pointer (some ⟨b,0,none⟩)],.func (.func 235) #[] #[.pointer (some ⟨b,0,none⟩)],
   .func (.func 236) #[] #[.pointer (some ⟨bf,0,none⟩),.pointer (some ⟨b,0,none⟩)],.func (.func 237) #[] #[.pointer (some ⟨b,0,none⟩),.pointer (some ⟨bf,0,none⟩)],
   .func (.func 239) #[] #[.pointer (some ⟨b,0,none⟩)]]):Tests w4 ba p:=by
 intro i wr hi hj hb
 have hA':=hA.below hb
 have hB':=hB.below hb
 have hF':=hF.below hb
 have hin':=hin.below hb
 have ht':wr.cell? ⟨bt,0,none⟩=some (.int .i64 t):=(hb.cell (World.block_lt_of_cell? w4 _ ht)).trans ht
 have hm1:0<i→1≤m:=fun h=>by
  have h0:0<plainV p.n.toNat p.prime p.power:=hj 0 h
  rw [← hM,← hT]
  exact Nat.mul_pos (by omega) h0
 have h24:1<i→1≤p.chain.length∧p.chain.length≤24:=fun h=>hj 1 h
 have hc:i=0∨i=1∨i=2∨i=3∨i=4∨i=5:=by omega
 rcases hc with rfl | rfl | rfl | rfl | rfl | rfl
 ·refine ⟨_,_,hA'.cell 0,enters_pc2,?_⟩
  have e:Six p 0=(0<t):=by show (0<plainV p.n.toNat p.prime p.power)=(0<t);rw [hT]
  rw [e]
  exact pc2_walk t bt wr ht'
 ·exact ⟨_,_,hA'.cell 1,enters_pc3,pc3_walk b p ca cc wr hB'⟩
 ·exact ⟨_,_,hA'.cell 2,enters_pc4,pc4_walk b p ca cc wr hB'⟩
 ·refine ⟨_,_,hA'.cell 3,enters_pc5,?_⟩
  have e:Six p 3=GoodP m p.special:=by show GoodP (2*p.n.toNat*plainV p.n.toNat p.prime p.power) p.special=_;rw [hT,hM]
  rw [e]
  exact pc5_walk b bf bs m p ca cc wr hB' hF' (hm1 (by omega)) hm2 hin'.special
 ·refine ⟨_,_,hA'.cell 4,enters_pc6,?_⟩
  have e:tr (Six p 4) = !p.chain.any fun q=>tr (p.special≤q∨¬ GoodP m q):=by
   rw [not_any]
   show tr (∀ i,i<p.chain.length→¬ (p.special≤p.chain.getD i 0∨¬ GoodP (2*p.n.toNat*plainV p.n.toNat p.prime p.power) (p.chain.getD i 0)))=_
   rw [hT,hM]
  rw [e]
  have:=h24 (by omega)
  exact pc6_walk b bf bs m p ca cc wr hB' hF' (hm1 (by omega)) hm2 hin' (by omega)
 ·have:=h24 (by omega)
  exact ⟨_,_,hA'.cell 5,enters_pc7,pc7_walk b p ca cc wr hB' hin' this.1 this.2⟩

set_option maxHeartbeats 6400000 in
set_option maxRecDepth 100000 in
theorem pcheck_walk (p:Par) (ca:Option Addr) (cc:Nat) (w:World) (hin:ParIn w p ca cc) :
  Calls Tryz.prog 155 #[.agg (p.cells ca cc)] w fun e w'=>e = .returned (.int .i64 (chk (Good p)))∧Below w.heap.size w w':=by
 have HD:=Lib.hid (pdim_walk p.n (w.alloc (.cells (p.cells ca cc) 25)))
 by_cases hd:IsDim p.n
 case neg=>
  rw [chk_neg (fun h=>hd h.1)]
  rw [tr_neg hd] at HD
  obtain ⟨n,hn⟩:∃ n,p.n=n:=⟨_,rfl⟩
  obtain ⟨l,hl⟩:∃ l,p.chain.length=l:=⟨_,rfl⟩
  unfold Par.cells at HD ⊢
  rw [hn,hl] at HD ⊢
  clear hin hd hn hl
  go_enter Tryz.func155,Tryz.ntmps155
  go_wp2_with fail
  (with_reducible refine Calls.mono HD.out ?_)
  rintro e w1 ⟨rfl,rfl⟩
  go_wp2
  go_ret
  exact ⟨rfl,(Below.refl _ w).alloc (Nat.le_refl _) _⟩
 rw [tr_pos hd] at HD
 have HS6:=Lib.hid (six_iff p hd)
 have hN:((p.n.toNat:Nat):Int)=p.n:=Int.toNat_of_nonneg (by rcases hd with h | h | h | h<;>omega)
 have hNc:p.n.toNat=4∨p.n.toNat=8∨p.n.toNat=16∨p.n.toNat=32:=by rcases hd with h | h | h | h<;>omega
 have hP:=ppower_walk p.n.toNat p.prime p.power (w.alloc (.cells (p.cells ca cc) 25)) hNc hin.prime hin.power1 hin.power2
 rw [hN] at hP
 obtain ⟨t,ht⟩:∃ t,plainV p.n.toNat p.prime p.power=t:=⟨_,rfl⟩
 have ht2:t≤2147483647:=by rw [← ht];exact plainV_le _ _ _
 rw [ht] at hP
 have HP:=Lib.hid hP
 obtain ⟨m,hm⟩:∃ m,2*p.n.toNat*t=m:=⟨_,rfl⟩
 have em:(2*p.n)*(t:Int)=(m:Int):=by rw [← hm,← hN];simp
 have hm2:m≤64*2147483647:=by rw [← hm];exact Nat.mul_le_mul (by omega) ht2
 have hn32:p.n≤32:=by omega
 have hn4:4≤p.n:=by omega
 have HM:=Lib.hid hm
 have HT:=Lib.hid ht
 have HIN:=Lib.hid hin
 have HB:Hid (Blk (w.alloc (.cells (p.cells ca cc) 25)) w.heap.size 25 (p.cells ca cc)):=Lib.hid (Blk.new _ _ _)
 clear hin hd hN hNc hP ht hm
 unfold Par.cells at HD HP ⊢
 go_enter Tryz.func155,Tryz.ntmps155
 go_wp2_with fail
 (with_reducible refine Calls.mono HD.out ?_)
 rintro e w1 ⟨rfl,rfl⟩
 go_wp2_with fail
 (with_reducible refine Calls.mono HP.out ?_)
 rintro e w2 ⟨rfl,hb⟩
 have HW:Hid (Below w.heap.size w w2):=Lib.hid (below_step ((Below.refl _ w).alloc (Nat.le_refl _) _) hb)
 have HBB:Hid (Blk w2 w.heap.size 25 (p.cells ca cc)):=Lib.hid (HB.out.below hb)
 have hlt:w.heap.size<w2.heap.size:=HBB.out.lt
 have c0:w2.cell? ⟨w.heap.size,0,none⟩=some (.int .i64 p.n):=HBB.out.cell 0
 clear hb HP HD HB
 go_wp2
 obtain ⟨u,hu⟩:∃ u,w2.heap.size=u:=⟨_,rfl⟩
 rw [hu] at hlt ⊢
 obtain ⟨w4,hw4⟩:∃ w4,((((w2.alloc (.cells #[.int .i64 t] 2)).alloc (.cells #[.int .i64 m] 2)).alloc (.cells #[.func (.func 231) #[] #[.pointer (some ⟨u+1,0,none⟩)]] 204)).alloc
  (.cells #[.func (.func 233) #[] #[.pointer (some ⟨u,0,none⟩)],.func (.func 234) #[] #[.pointer (some ⟨w.heap.size,0,none⟩)],.func (.func 235) #[] #[.pointer (some ⟨w.heap.size,0,none⟩)],
   .func (.func 236) #[] #[.pointer (some ⟨u+1+1,0,none⟩),.pointer (some ⟨w.heap.size,0,none⟩)],.func (.func 237) #[] #[.pointer (some ⟨w.heap.size,0,none⟩),.pointer (some ⟨u+1+1,0,none⟩)],
   .func (.func 239) #[] #[.pointer (some ⟨w.heap.size,0,none⟩)]] 31))=w4:=⟨_,rfl⟩
 have hW4:Hid (Below w.heap.size w w4):=by
  rw [← hw4]
  exact Lib.hid ((((HW.out.alloc (by omega) _).alloc (by simp;omega) _).alloc (by simp;omega) _).alloc (by simp;omega) _)
 have hT:Hid (Tests w4 (u+1+1+1) p):=by
  have hin4:=HIN.out.below hW4.out
  subst hu
  subst hw4
  have k0:=Blk.new w2 2 #[.int .i64 (t:Int)]
  have k1:=Blk.new (w2.alloc (.cells #[.int .i64 t] 2)) 2 #[.int .i64 (m:Int)]
  have k2:=Blk.new ((w2.alloc (.cells #[.int .i64 t] 2)).alloc (.cells #[.int .i64 m] 2)) 204 #[.func (.func 231) #[] #[.pointer (some ⟨w2.heap.size+1,0,none⟩)]]
  have k3:=Blk.new (((w2.alloc (.cells #[.int .i64 t] 2)).alloc (.cells #[.int .i64 m] 2)).alloc (.cells #[.func (.func 231) #[] #[.pointer (some ⟨w2.heap.size+1,0,none⟩)]] 204)) 31
   #[.func (.func 233) #[] #[.pointer (some ⟨w2.heap.size,0,none⟩)],.func (.func 234) #[] #[.pointer (some ⟨w.heap.size,0,none⟩)],.func (.func 235) #[] #[.pointer (some ⟨w.heap.size,0,none⟩)],
   .func (.func 236) #[] #[.pointer (some ⟨w2.heap.size+1+1,0,none⟩),.pointer (some ⟨w.heap.size,0,none⟩)],.func (.func 237) #[] #[.pointer (some ⟨w.heap.size,0,none⟩),.pointer (some ⟨w2.heap.size+1+1,0,none⟩)],
   .func (.func 239) #[] #[.pointer (some ⟨w.heap.size,0,none⟩)]]
  simp only [World.size_alloc] at k1 k2 k3
  exact Lib.hid (tests_of ((((HBB.out.alloc _).alloc _).alloc _).alloc _) hin4 ((((k0.alloc _).alloc _).alloc _).cell 0) ⟨((k2.alloc _).cell 0),(((k1.alloc _).alloc _).cell 0)⟩ HT.out HM.out hm2 hn4 k3)
 rw [hw4]
 clear hw4 hu c0 HBB HW HIN HT HM em
 go_loopg [35] 6 (fun k vi wr=>∃ i:Nat,vi = .int .i64 i∧i≤6∧6 - i≤k∧Hid (PcI w4 wr p i))
 case atStart=>exact ⟨0,rfl,by omega,by omega,Lib.hid (PcI.start _ _)⟩
 case round=>
  obtain ⟨i,rfl,hi,hk,HI⟩:=hrel
  by_cases hlt6:i<6
  ·obtain ⟨fn,caps,hcell,hen,hC⟩:=hT.out i wr hlt6 HI.out.2 HI.out.1
   have HC:=Lib.hid hC
   clear hC
   by_cases hs:Six p i
   ·rw [tr_pos hs] at HC
    go_wp2_with fail
    (with_reducible refine Calls.mono HC.out ?_)
    rintro e w5 ⟨rfl,hb⟩
    have HI':=Lib.hid (HI.out.step hb hs)
    clear hb
    go_wp2
    go_roundg (6 - (i+1))
    case measure=>omega
    case rel=>exact ⟨i+1,by go_num,by omega,Nat.le_refl _,HI'⟩
   ·rw [tr_neg hs] at HC
    go_wp2_with fail
    (with_reducible refine Calls.mono HC.out ?_)
    rintro e w5 ⟨rfl,hb⟩
    have HI':=Lib.hid (below_step HI.out.1 hb)
    have HG:Hid (chk (Good p)=2):=Lib.hid (chk_neg (fun h=>hs (HS6.out.2 h i hlt6)))
    clear hb
    go_wp2
    go_ret
    rw [HG.out]
    exact ⟨rfl,below_step hW4.out HI'.out⟩
  ·obtain rfl:i=6:=by omega
   have HG:Hid (chk (Good p)=0):=Lib.hid (chk_pos (HS6.out.1 HI.out.2))
   go_wp2
   go_ret
   rw [HG.out]
   exact ⟨rfl,below_step hW4.out HI.out.1⟩
end Go.Proofs.YtdcenblblimkfaaGreat
