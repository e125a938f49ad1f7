/- The library's scattering of some elements: its numbers, its loop.
The library's scattering of some elements. -/
import Derived.Test.YtdcenblblimkfaaGreatPn19
import Derived.Test.YtdcenblblimkfaaGreatPn26
import Derived.Sort.Row
import Derived.Laws.Bits64
import Derived.Laws.Bits64b
set_option linter.unusedSimpArgs false
set_option linter.unusedVariables false
set_option linter.unnecessarySimpa false
set_option linter.unusedSectionVars false
namespace Go.Proofs.YtdcenblblimkfaaGreat
open Go.RowKit

theorem setCell_twice (w:World) (b o:Nat) (v v':Value):(w.setCell ⟨b,o,none⟩ v).setCell ⟨b,o,none⟩ v'=w.setCell ⟨b,o,none⟩ v':=by
 rw [Sort.setCell_eq,Sort.setCell_eq,Sort.mapBlock_mapBlock,Sort.setCell_eq]
 congr 1
 funext c
 simp

def Rnd (w:World) (p X:Nat):Prop:=w.heap[p]? = some (.cells #[.int .u64 X] 304 (0,0))
section
variable {w w':World} {p X:Nat} {S:List Nat}
theorem Rnd.lt (h:Rnd w p X):p<w.heap.size:=block_lt h
theorem Rnd.cell (h:Rnd w p X):w.cell? ⟨p,0,none⟩=some (.int .u64 X):=by unfold Rnd at h;simp [World.cell?,h]
theorem Rnd.free (h:Rnd w p X):w.frozen? ⟨p,0,none⟩=false:=by unfold Rnd at h;simp [World.frozen?,h]
theorem Rnd.set (h:Rnd w p X) (Y:Nat):Rnd (w.setCell ⟨p,0,none⟩ (.int .u64 Y)) p Y:=by unfold Rnd at *;simp [World.setCell,Array.getElem?_modify,h]
theorem Rnd.other (h:Rnd w p X) {a:Addr} (hp:p≠a.block) (u:Value):Rnd (w.setCell a u) p X:=(Below.heap_setCell w a u p hp).trans h
end

set_option maxHeartbeats 1600000 in
set_option maxRecDepth 100000 in
theorem xnext_walk (p X:Nat) (hX:X<18446744073709551616) (w:World) (h:Rnd w p X) :
  ∃ Y:Nat,Y<18446744073709551616∧Calls Tryz.prog 318 #[.pointer (some ⟨p,0,none⟩)] w fun e w'=>e = .returned (.int .u64 Y)∧w'=(w.setCell ⟨p,0,none⟩ (.int .u64 Y)).drewN 3:=by
 have hc:=h.cell
 have hf:=h.free
 clear h
 obtain ⟨A,hA⟩:∃ A:Nat,A=X ^^^ (X*8192 % 18446744073709551616):=⟨_,rfl⟩
 obtain ⟨B,hB⟩:∃ B:Nat,B=A ^^^ (A / 128):=⟨_,rfl⟩
 obtain ⟨C,hC⟩:∃ C:Nat,C=B ^^^ (B*131072 % 18446744073709551616):=⟨_,rfl⟩
 have lA:A<18446744073709551616:=by rw [hA];exact Nat.xor_lt_two_pow (n:=64) (by omega) (by omega)
 have lB:B<18446744073709551616:=by rw [hB];exact Nat.xor_lt_two_pow (n:=64) (by omega) (by omega)
 have lC:C<18446744073709551616:=by rw [hC];exact Nat.xor_lt_two_pow (n:=64) (by omega) (by omega)
 refine ⟨C,lC,?_⟩
 have e1:bits .xor .u64 (X:Int) (IntKind.u64.wrap ((X:Int)*8192))=(A:Int):=by
  rw [IntKind.wrap_u64,show ((X:Int)*8192 % 18446744073709551616)=((X*8192 % 18446744073709551616:Nat):Int) by omega,bits_xor_u64_nat _ _ hX (by omega),hA]
 have e2:bits .xor .u64 (A:Int) ((A:Int) / 128)=(B:Int):=by
  rw [show ((A:Int) / 128)=((A / 128:Nat):Int) by omega,bits_xor_u64_nat _ _ lA (by omega),hB]
 have e3:bits .xor .u64 (B:Int) (IntKind.u64.wrap ((B:Int)*131072))=(C:Int):=by
  rw [IntKind.wrap_u64,show ((B:Int)*131072 % 18446744073709551616)=((B*131072 % 18446744073709551616:Nat):Int) by omega,bits_xor_u64_nat _ _ lB (by omega),hC]
 clear hA hB hC
 have hss:∀ v v',(w.setCell ⟨p,0,none⟩ v).setCell ⟨p,0,none⟩ v'=w.setCell ⟨p,0,none⟩ v':=setCell_twice w p 0
 go_enter Tryz.func318,Tryz.ntmps318
 go_wp2
 go_region
 all_goals go_wp2
 all_goals go_region
 all_goals go_wp2
 all_goals go_region
 all_goals go_wp2
 go_ret
 exact ⟨rfl,rfl⟩

theorem len_cases:∀ L:Nat,L<50→8≤L→(Lib.bitLen L=4∧L<16)∨(Lib.bitLen L=5∧16≤L∧L<32)∨(Lib.bitLen L=6∧32≤L):=by decide
set_option maxHeartbeats 1600000 in
theorem blen_walk (L:Nat) (w:World) (h:L<50):Calls Tryz.prog 282 #[.int .u64 L] w fun e w'=>e = .returned (.int .i64 (Lib.bitLen L:Nat))∧w'=w:=by
 have hL:=len64_walk (L:Int) w (by omega) (by omega)
 have HL:=Lib.hid hL
 clear hL
 go_enter Tryz.func282,Tryz.ntmps282
 go_wp2_with fail
 (with_reducible refine Calls.mono HL.out ?_)
 rintro e w' ⟨rfl,rfl⟩
 go_wp2
 go_ret
 exact ⟨rfl,rfl⟩
set_option maxHeartbeats 1600000 in
theorem nextpow_walk (L:Nat) (h8:8≤L) (h50:L<50) (w:World):∃ M:Nat,1≤M∧M≤2*L∧Calls Tryz.prog 317 #[.int .i64 L] w fun e w'=>e = .returned (.int .u64 M)∧w'=w:=by
 have hB:=blen_walk L w h50
 rcases len_cases L h50 h8 with ⟨hl,h1⟩ | ⟨hl,h1,h2⟩ | ⟨hl,h1⟩
 all_goals
  rw [hl] at hB
  have HB:=Lib.hid hB
  clear hB hl
 ·refine ⟨16,by omega,by omega,?_⟩
  go_enter Tryz.func317,Tryz.ntmps317
  go_wp2_with fail
  (with_reducible refine Calls.mono HB.out ?_)
  rintro e w' ⟨rfl,rfl⟩
  go_wp2
  go_ret
  exact ⟨rfl,rfl⟩
 ·refine ⟨32,by omega,by omega,?_⟩
  go_enter Tryz.func317,Tryz.ntmps317
  go_wp2_with fail
  (with_reducible refine Calls.mono HB.out ?_)
  rintro e w' ⟨rfl,rfl⟩
  go_wp2
  go_ret
  exact ⟨rfl,rfl⟩
 ·refine ⟨64,by omega,by omega,?_⟩
  go_enter Tryz.func317,Tryz.ntmps317
  go_wp2_with fail
  (with_reducible refine Calls.mono HB.out ?_)
  rintro e w' ⟨rfl,rfl⟩
  go_wp2
  go_ret
  exact ⟨rfl,rfl⟩

def BrkI (w wr:World) (g z a b X:Nat) (d dk:Array Int):Prop:=RevI w wr g a b d dk∧Rnd wr z X∧X<18446744073709551616
theorem BrkI.next {w wr:World} {g z a b X Y i j:Nat} {d dk:Array Int} (h:BrkI w wr g z a b X d dk) (hgz:g≠z) (hz:w.heap.size≤z) (hY:Y<18446744073709551616) (hi:a≤i) (hib:i<b) (hj:a≤j) (hjb:j<b) (hb:b≤d.size) (n:Nat) :
  BrkI w ((((wr.setCell ⟨z,0,none⟩ (.int .u64 Y)).setCell ⟨g,i,none⟩ (.int .u32 dk[j]!)).setCell ⟨g,j,none⟩ (.int .u32 dk[i]!)).drewN n) g z a b Y d (Sort.swp dk i j):=by
 obtain ⟨⟨h1,h2,h3⟩,h4,_⟩:=h
 refine ⟨RevI.swap ⟨h1.other hgz _,h2,h3.setCell (.inr hz) _⟩ hi hib hj hjb hb n,?_,hY⟩
 exact ((h4.set Y).other (fun e=>hgz e.symm) _).other (fun e=>hgz e.symm) _


set_option maxHeartbeats 6400000 in
set_option maxRecDepth 100000 in
theorem brk_walk (g cap a b:Nat) (d:Array Int) (w:World) (hA:Arr w g d) (hab:a+8≤b) (hb:b≤d.size) (h50:b<a+50) (hsz:d.size≤1000000) :
  Calls Tryz.prog 299 #[.slice (some ⟨g,0,none⟩) d.size cap,.int .i64 a,.int .i64 b] w (SrtPost w g fun d'=>Sort.PermIn a b d d'):=by
 have hgz:g<w.heap.size:=hA.lt
 obtain ⟨L,hL⟩:∃ L,b - a=L:=⟨_,rfl⟩
 have hL8:8≤L:=by omega
 have hL50:L<50:=by omega
 have eL:(b:Int) - (a:Int)=(L:Int):=by omega
 have EL:=Lib.hid eL
 have haL:a+L=b:=by omega
 have HAL:=Lib.hid haL
 have ew:IntKind.u64.wrap (L:Int)=(L:Int):=IntWalk.u64_in _ (by omega)
 clear eL hL haL
 obtain ⟨M,hM1,hM2,hM⟩:=nextpow_walk L hL8 hL50 (w.alloc (.cells #[.int .u64 L] 304))
 have HM:=Lib.hid hM
 have H0:Hid (BrkI w (w.alloc (.cells #[.int .u64 L] 304)) g w.heap.size a b L d d):=
  ⟨⟨hA.alloc _,Sort.permIn_refl _ _ _,(Turn.refl w _).alloc _⟩,heap_alloc_new w _,by omega⟩
 clear hM hA
 obtain ⟨I0,hI0⟩:∃ I0,a+L / 4*2 - 1=I0:=⟨_,rfl⟩
 have eI:(a:Int)+(L:Int) / 4*2 - 1=(I0:Int):=by omega
 have eJ:(a:Int)+(L:Int) / 4*2+1=(I0:Int)+2:=by omega
 have hIa:a≤I0:=by omega
 have hIb:I0+2<b:=by have:=HAL.out;omega
 have EI:=Lib.hid eI
 have hi1:(I0:Int)+1≤(a:Int)+(L:Int) / 4*2:=by omega
 have hi2:(a:Int)+(L:Int) / 4*2≤(I0:Int)+1:=by omega
 have hd8:decide ((8:Int)≤(L:Int))=true:=by simp;omega
 clear hI0 eI eJ
 go_enter Tryz.func299,Tryz.ntmps299
 go_wp2_with fail
 rw [EL.out]
 (with_reducible refine Calls.mono HM.out ?_)
 rintro e w1 ⟨rfl,rfl⟩
 go_wp2_with fail
 rw [EI.out]
 go_loopw [9] (fun vi wr=>∃ (t X:Nat) (dk:Array Int),vi = .int .i64 ((I0+t:Nat):Int)∧t≤3∧Hid (BrkI w wr g w.heap.size a b X d dk)) (fun vi _=>I0+3 - (intOf vi).toNat)
 case atStart=>exact ⟨0,L,d,by go_num,by omega,H0⟩
 case round=>
  clear H0 HM
  obtain ⟨t,X,dk,rfl,ht,HI⟩:=hrel
  obtain ⟨i,hi⟩:∃ i,I0+t=i:=⟨_,rfl⟩
  have HI0:=Lib.hid hi
  rw [hi]
  by_cases h3:t<3
  ·have hia:a≤i:=by omega
   have hib:i<b:=by omega
   have hi3:i≤I0+2:=by omega
   clear hi
   obtain ⟨Y,hY,hN⟩:=xnext_walk w.heap.size X HI.out.2.2 wr HI.out.2.1
   have HN:=Lib.hid hN
   obtain ⟨O,hO⟩:∃ O:Nat,O=Y &&& (M - 1):=⟨_,rfl⟩
   have lO:O≤M - 1:=by rw [hO];exact Nat.and_le_right
   have eAnd:bits .and .u64 (Y:Int) ((M:Int) - 1)=(O:Int):=by
    rw [show ((M:Int) - 1)=((M - 1:Nat):Int) by omega,bits_and_u64_nat _ _ hY (by omega),hO]
   clear hO hN
   have key:∀ q,q<L→Hid (∃ j x y,a+q=j∧a≤j∧j<b∧dk[i]! = x∧dk[j]! = y∧(wr.setCell ⟨w.heap.size,0,none⟩ (.int .u64 Y)).cell? ⟨g,i,none⟩=some (.int .u32 x)∧(wr.setCell ⟨w.heap.size,0,none⟩ (.int .u64 Y)).cell? ⟨g,a+q,none⟩=some (.int .u32 y) ∧
     (∀ n,BrkI w ((((wr.setCell ⟨w.heap.size,0,none⟩ (.int .u64 Y)).setCell ⟨g,i,none⟩ (.int .u32 y)).setCell ⟨g,a+q,none⟩ (.int .u32 x)).drewN n) g w.heap.size a b Y d (Sort.swp dk i j))):=by
    intro q hq
    have hs:dk.size=d.size:=HI.out.1.2.1.1
    have hA:=HI.out.1.1.other (p:=⟨w.heap.size,0,none⟩) (by simp;omega) (.int .u64 Y)
    have e:=HAL.out
    exact ⟨a+q,_,_,rfl,by omega,by omega,rfl,rfl,hA.cell (by omega),hA.cell (by omega),fun n=>HI.out.next (i:=i) (j:=a+q) (by omega) (Nat.le_refl _) hY hia hib (by omega) (by omega) hb n⟩
   have hf:∀ q,(wr.setCell ⟨w.heap.size,0,none⟩ (.int .u64 Y)).frozen? ⟨g,q,none⟩=false:=(HI.out.1.1.other (p:=⟨w.heap.size,0,none⟩) (by simp;omega) (.int .u64 Y)).free
   have KEY:=Lib.hid key
   clear key
   by_cases hLO:L≤O
   ·obtain ⟨j,x,y,hj,_,_,hx,hy,c1,c2,hB⟩:=(KEY.out (O - L) (by omega)).out
    have ej:(a:Int)+((O:Int) - (L:Int))=(j:Int):=by omega
    have f1:=hf i
    have f2:=hf j
    rw [hj] at c2 hB
    have HB:=Lib.hid hB
    have HXY:Hid (j=i→x=y):=Lib.hid fun e=>by rw [← hx,← hy,e]
    clear hB hj hx hy hf KEY HAL
    go_wp2_with fail
    (with_reducible refine Calls.mono HN.out ?_)
    rintro e w1 ⟨rfl,rfl⟩
    go_wp2_with fail
    by_cases e:j=i
    ·subst e
     obtain rfl:=HXY.out rfl
     clear c2 f2
     go_region
     all_goals go_wp2
     go_roundw
     case rel=>exact ⟨t+1,Y,_,by have:=HI0.out;go_num,by omega,Lib.hid (HB.out _)⟩
     case measure=>have:=HI0.out;simp [intOf];omega
    ·go_region
     all_goals go_wp2
     go_roundw
     case rel=>exact ⟨t+1,Y,_,by have:=HI0.out;go_num,by omega,Lib.hid (HB.out _)⟩
     case measure=>have:=HI0.out;simp [intOf];omega
   ·obtain ⟨j,x,y,hj,_,_,hx,hy,c1,c2,hB⟩:=(KEY.out (O) (by omega)).out
    have ej:(a:Int)+(O:Int)=(j:Int):=by omega
    have f1:=hf i
    have f2:=hf j
    rw [hj] at c2 hB
    have HB:=Lib.hid hB
    have HXY:Hid (j=i→x=y):=Lib.hid fun e=>by rw [← hx,← hy,e]
    clear hB hj hx hy hf KEY HAL
    go_wp2_with fail
    (with_reducible refine Calls.mono HN.out ?_)
    rintro e w1 ⟨rfl,rfl⟩
    go_wp2_with fail
    by_cases e:j=i
    ·subst e
     obtain rfl:=HXY.out rfl
     clear c2 f2
     go_region
     all_goals go_wp2
     go_roundw
     case rel=>exact ⟨t+1,Y,_,by have:=HI0.out;go_num,by omega,Lib.hid (HB.out _)⟩
     case measure=>have:=HI0.out;simp [intOf];omega
    ·go_region
     all_goals go_wp2
     go_roundw
     case rel=>exact ⟨t+1,Y,_,by have:=HI0.out;go_num,by omega,Lib.hid (HB.out _)⟩
     case measure=>have:=HI0.out;simp [intOf];omega
  ·have h3':I0+3≤i:=by omega
   clear hi
   go_wp2
   go_end0
   exact ⟨rfl,dk,HI.out.1.1,HI.out.1.2.1,HI.out.1.2.2⟩
end Go.Proofs.YtdcenblblimkfaaGreat
