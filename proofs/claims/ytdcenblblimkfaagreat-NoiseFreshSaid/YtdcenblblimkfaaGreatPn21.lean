/- The library's Compact: its length tells whether two neighbours are equal. -/
import Derived.Test.YtdcenblblimkfaaGreatPn06
import Derived.Laws.CopyRow
set_option linter.unusedSimpArgs false
set_option linter.unusedVariables false
set_option linter.unnecessarySimpa false
set_option linter.unusedSectionVars false
namespace Go.Proofs.YtdcenblblimkfaaGreat
open Go.RowKit

def Row (w wr:World) (g n:Nat):Prop:=(∃ d,d.size=n∧Arr wr g d)∧Turn w wr [g]
theorem setRow_turn (w:World) (g:Nat) (c:Array Value):Turn w (w.setRow g c) [g]:=by
 refine ⟨rfl,rfl,rfl,by simp [World.setRow],fun k hk hn=>?_⟩
 have hne:g≠k:=fun e=>hn (by simp [e])
 simp [World.setRow,Array.getElem?_modify,hne]
theorem zeroCells_all (m:Nat):∀ v∈(Builtin.zeroCells #[Value.int .u32 0] m).toList,v=Value.int .u32 0:=by
 intro v hv
 simp only [Builtin.zeroCells,Array.toList_map,List.mem_map] at hv
 obtain ⟨i,_,rfl⟩:=hv
 simp [Nat.mod_one]
theorem clear_run {w:World} {g k n:Nat} {d:Array Int} (hA:Arr w g d) (hd:d.size=n) (hk:k<n) (ty:TypeId) (c:Nat) :
  ∃ w',(Builtin.clear_ #[23] ty #[.slice (some ⟨g,k,none⟩) (n - k) c]).run Tryz.prog w = .ok (.tuple #[]) w'∧Turn w w' [g]:=by
 obtain ⟨r,e,hh⟩:=hA
 have hlen:(Builtin.zeroCells #[Value.int .u32 0] (n - k)).toList.length=n - k:=by simp [Builtin.zeroCells]
 obtain ⟨cs,hs⟩:∃ cs,(storeCells ⟨g,k,none⟩ (Builtin.zeroCells #[Value.int .u32 0] (n - k)).toList).run Tryz.prog w = .ok () (w.setRow g cs):=
  ⟨_,run_storeCells_at (P:=Tryz.prog) g k e (Builtin.zeroCells #[Value.int .u32 0] (n - k)).toList 0 _ w hh (by rw [hlen];simp;omega) (fun v hv=>by rw [zeroCells_all _ v hv];rfl)⟩
 refine ⟨w.setRow g cs,?_,setRow_turn w g cs⟩
 obtain ⟨m,hm⟩:∃ m,n - k=m+1:=⟨n - k - 1,by omega⟩
 rw [hm] at hs ⊢
 simp [Builtin.clear_,run_underlying Tryz.underlying23,Value.cells,hs]

theorem Row.set {w wr:World} {g n k:Nat} (h:Row w wr g n) (hk:k<n) (x:Int):Row w (wr.setCell ⟨g,k,none⟩ (.int .u32 x)) g n:=by
 obtain ⟨⟨d,hd,hA⟩,ht⟩:=h
 exact ⟨⟨_,by simpa using hd,hA.set (by omega) x⟩,ht.setCell (.inl (by simp)) _⟩
theorem Row.draws {w wr:World} {g n:Nat} (h:Row w wr g n) (q:Nat):Row w (wr.drewN q) g n:=by
 obtain ⟨⟨d,hd,hA⟩,ht⟩:=h
 exact ⟨⟨_,hd,hA.drewN q⟩,ht.drewN q⟩
def CmpPost (w:World) (g n:Nat) (d:Array Int) (e:Ending) (w':World):Prop:=
 ∃ m c,e = .returned (.slice (some ⟨g,0,none⟩) m c)∧(m=n↔∀ k,1≤k→k<n→d[k]!≠d[k - 1]!)∧Turn w w' [g]

set_option maxHeartbeats 3200000 in
set_option maxRecDepth 100000 in
theorem compact_walk (g cap n:Nat) (d:Array Int) (w:World) (hA:Arr w g d) (hd:d.size=n) (hcap:n≤cap) (hc2:cap≤9223372036854775807):Calls Tryz.prog 242 #[.slice (some ⟨g,0,none⟩) n cap] w (CmpPost w g n d):=by
 have HA:=Lib.hid hA
 have HD:=Lib.hid hd
 clear hA hd
 by_cases h2:n<2
 ·go_enter Tryz.func242,Tryz.ntmps242
  go_wp2
  go_ret
  exact ⟨n,cap,rfl,⟨fun _ k h1 h3=>by omega,fun _=>rfl⟩,Turn.refl _ _⟩
 have hd2:decide ((n:Int)<2)=false:=decide_eq_false (by omega)
 go_enter Tryz.func242,Tryz.ntmps242
 go_wp2
 go_loopg [3] n (fun j vk wr=>∃ (k q:Nat),vk = .int .i64 k∧1≤k∧k≤n∧n - k≤j∧wr=w.drewN q∧Hid (∀ i,1≤i→i<k→d[i]!≠d[i - 1]!))
 case atStart=>exact ⟨1,0,rfl,Nat.le_refl _,by omega,by omega,rfl,Lib.hid fun i h1 h3=>by omega⟩
 case round=>
  obtain ⟨k,q,rfl,hk1,hkn,hj,rfl,HN⟩:=hrel
  by_cases hlt:k<n
  ·have hdk:decide ((k:Int)<(n:Int))=true:=decide_eq_true (by omega)
   have hs:=HD.out
   have c1:=HA.out.cell (i:=k) (by omega)
   have c2:=HA.out.cell (i:=k - 1) (by omega)
   obtain ⟨x,hx⟩:∃ x,d[k]! = x:=⟨_,rfl⟩
   obtain ⟨y,hy⟩:∃ y,d[k - 1]! = y:=⟨_,rfl⟩
   rw [hx] at c1
   rw [hy] at c2
   have HX:=Lib.hid hx
   have HY:=Lib.hid hy
   clear hx hy hs
   by_cases he:x=y
   ·have hq:(x == y)=true:=by simp [he]
    have HE:Hid (d[k]! = d[k - 1]!):=Lib.hid (by rw [HX.out,HY.out];exact he)
    clear he
    have HR:Hid (∀ q,Row w (w.drewN q) g n):=fun q=>Row.draws ⟨⟨d,HD.out,HA.out⟩,Turn.refl _ _⟩ q
    go_wp2_with fail
    go_quiet (fail)
    go_wp2
    clear c1 c2 hq
    go_loopg [3,5] n (fun j vk v2 wr=>∃ (k1 k2:Nat),vk = .int .i64 k1∧v2 = .int .i64 k2∧k≤k1∧k1+1≤k+k2∧1≤k2∧k2≤n - k∧n - k2≤j∧Hid (Row w wr g n))
    case atStart=>exact ⟨k,1,rfl,rfl,Nat.le_refl _,by omega,Nat.le_refl _,by omega,by omega,Lib.hid (HR.out _)⟩
    case round=>
     clear HR
     obtain ⟨k1,k2,rfl,rfl,hk1',hk2,hk3,hk4,hj',HR⟩:=hrel
     by_cases hlt2:k2<n - k
     ·obtain ⟨⟨d1,hd1,hA1⟩,hT1⟩:=HR.out
      have c1:=hA1.cell (i:=k+k2) (by omega)
      have c2:=hA1.cell (i:=k+(k2 - 1)) (by omega)
      have f1:=hA1.free k1
      have c3:=hA1.cell (i:=k1) (by omega)
      obtain ⟨u,hu⟩:∃ u,d1[k+k2]! = u:=⟨_,rfl⟩
      obtain ⟨v,hv⟩:∃ v,d1[k+(k2 - 1)]! = v:=⟨_,rfl⟩
      rw [hu] at c1
      rw [hv] at c2
      clear hu hv hd1 hA1 hT1
      by_cases he:u=v
      ·have hq:(u != v)=false:=by simp [he]
       clear he
       go_wp2_with fail
       go_quiet (fail)
       go_wp2
       go_roundg (n - (k2+1))
       case measure=>omega
       case rel=>exact ⟨k1,k2+1,rfl,by go_num,hk1',by omega,by omega,by omega,Nat.le_refl _,Lib.hid (HR.out.draws _)⟩
      ·have hq:(u != v)=true:=by simp [he]
       clear he
       go_wp2_with fail
       go_quiet (fail)
       go_wp2
       go_roundg (n - (k2+1))
       case measure=>omega
       case rel=>exact ⟨k1+1,k2+1,by go_num,by go_num,by omega,by omega,by omega,by omega,Nat.le_refl _,Lib.hid ((HR.out.set (k:=k1) (by omega) u).draws _)⟩
     ·have hk5:k1<n:=by omega
      obtain ⟨⟨d1,hd1,hA1⟩,hT1⟩:=HR.out
      have hcl:=fun ty=>clear_run hA1 hd1 hk5 ty (cap - k1)
      obtain ⟨w2,hw2,hT2⟩:∃ w2,(Builtin.clear_ #[23] 0 #[.slice (some ⟨g,k1,none⟩) (n - k1) (cap - k1)]).run Tryz.prog wr = .ok (.tuple #[]) w2∧Turn wr w2 [g]:=hcl 0
      have HT:=Lib.hid (hT1.trans hT2)
      clear hd1 hA1 hT1 hT2 hcl HR
      go_wp2
      go_ret
      exact ⟨k1,cap,rfl,⟨fun h=>by omega,fun h=>absurd HE.out (h k hk1 hlt)⟩,HT.out⟩
   ·have hq:(x == y)=false:=by simp [he]
    have HE:=Lib.hid he
    clear he
    go_wp2_with fail
    go_quiet (fail)
    go_wp2
    go_roundg (n - (k+1))
    case measure=>omega
    case rel=>
     refine ⟨k+1,_,by go_num,by omega,by omega,Nat.le_refl _,rfl,Lib.hid fun i h1 h3=>?_⟩
     by_cases e:i=k
     ·subst e;rw [HX.out,HY.out];exact HE.out
     ·exact HN.out i h1 (by omega)
  ·obtain rfl:k=n:=by omega
   go_wp2
   go_ret
   exact ⟨k,cap,rfl,⟨fun _=>HN.out,fun _=>rfl⟩,(Turn.refl _ _).drewN _⟩
end Go.Proofs.YtdcenblblimkfaaGreat
