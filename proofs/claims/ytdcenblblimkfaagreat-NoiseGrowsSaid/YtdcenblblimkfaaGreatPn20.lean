/- The library's partition.
The library's partition into equal and greater ones. -/
import Derived.Test.YtdcenblblimkfaaGreatPn19
import Derived.Deep.DeepCutAuto
import Derived.Deep.CutBlock
set_option linter.unusedSimpArgs false
set_option linter.unusedVariables false
set_option linter.unnecessarySimpa false
set_option linter.unusedSectionVars false
namespace Go.Proofs.YtdcenblblimkfaaGreat
open Go.RowKit

def PS (p:Int→Int→Bool) (v:Int) (w wr:World) (g:Nat) (d0 dk:Array Int) (a b i j:Nat):Prop:=Arr wr g dk∧PartI p v d0 dk a b i j∧Turn w wr [g]
section
variable {p:Int→Int→Bool} {v:Int} {w wr:World} {g a b i j:Nat} {d0 dk:Array Int}
theorem PS.draws (h:PS p v w wr g d0 dk a b i j) (n:Nat):PS p v w (wr.drewN n) g d0 dk a b i j:=⟨h.1,h.2.1,h.2.2.drewN n⟩
theorem PS.up (h:PS p v w wr g d0 dk a b i j) (hij:i≤j) (ht:p v dk[i]! = true):PS p v w wr g d0 dk a b (i+1) j:=⟨h.1,h.2.1.up hij ht,h.2.2⟩
theorem PS.down (h:PS p v w wr g d0 dk a b i j) (hij:i≤j) (ht:p v dk[j]! = false):PS p v w wr g d0 dk a b i (j - 1):=⟨h.1,h.2.1.down hij ht,h.2.2⟩
theorem PS.swap (h:PS p v w wr g d0 dk a b i j) (hij:i<j) (h1:p v dk[i]! = false) (h2:p v dk[j]! = true) :
  PS p v w ((wr.setCell ⟨g,i,none⟩ (.int .u32 dk[j]!)).setCell ⟨g,j,none⟩ (.int .u32 dk[i]!)) g d0 (Sort.swp dk i j) a b (i+1) (j - 1):=by
 have hb:=h.2.1.bs
 have hj:=h.2.1.jb
 exact ⟨h.1.swp (by omega) (by omega),h.2.1.swap hij h1 h2,(h.2.2.setCell (.inl (by simp)) _).setCell (.inl (by simp)) _⟩
theorem PS.start {d:Array Int} {piv:Nat} (hA:Arr w g d) (hap:a≤piv) (hpb:piv<b) (hb:b≤d.size) (hv:d[piv]! = v) :
  PS p v w ((w.setCell ⟨g,a,none⟩ (.int .u32 d[piv]!)).setCell ⟨g,piv,none⟩ (.int .u32 d[a]!)) g d (Sort.swp d a piv) a b (a+1) (b - 1):=by
 refine ⟨hA.swp (by omega) (by omega),PartI.start (Sort.swp_permIn d a b a piv (Nat.le_refl _) (by omega) hap hpb hb) ?_ (by rw [Sort.size_swp];exact hb) (by omega),((Turn.refl w _).setCell (.inl (by simp)) _).setCell (.inl (by simp)) _⟩
 rw [Sort.swp_get d (by omega) (by omega)]
 by_cases e:a=piv
 ·rw [if_pos e,e];exact hv
 ·rw [if_neg e,if_pos rfl];exact hv
end

def PartPost (w:World) (g:Nat) (d:Array Int) (a b:Nat) (e:Ending) (w':World):Prop:=
 ∃ (m:Nat) (ap:Bool) (d':Array Int),e = .returned (.tuple #[.int .i64 m,.bool ap])∧Arr w' g d'∧PPost d d' a b m∧Turn w w' [g]
theorem PS.post {v:Int} {w wr:World} {g a b i j:Nat} {d0 dk:Array Int} (h:PS (fun x y=>Sort.ltInt y x) v w wr g d0 dk a b i j) (hij:j<i) (ap:Bool) (n:Nat) :
  PartPost w g d0 a b (.returned (.tuple #[.int .i64 j,.bool ap])) (((wr.setCell ⟨g,j,none⟩ (.int .u32 v)).setCell ⟨g,a,none⟩ (.int .u32 dk[j]!)).drewN n):=by
 have hb:=h.2.1.bs
 have hj:=h.2.1.jb
 have h1:=h.2.1.ai
 have h2:=h.2.1.ij
 have H:=h.1.swp (i:=j) (j:=a) (by omega) (by omega)
 rw [h.2.1.av] at H
 exact ⟨j,ap,_,rfl,H,h.2.1.post hij,((h.2.2.setCell (.inl (by simp)) _).setCell (.inl (by simp)) _).drewN n⟩

set_option maxHeartbeats 12800000 in
set_option maxRecDepth 100000 in
theorem part_walk (g cap a b piv:Nat) (d0:Array Int) (w:World) (hA:Arr w g d0) (hap:a≤piv) (hpb:piv<b) (hb:b≤d0.size) (hsz:d0.size≤1000000) :
  Calls Tryz.prog 305 #[.slice (some ⟨g,0,none⟩) d0.size cap,.int .i64 a,.int .i64 b,.int .i64 piv] w (PartPost w g d0 a b):=by
 have c1:=hA.cell (i:=a) (by omega)
 have c2:=hA.cell (i:=piv) (by omega)
 have f1:=hA.free a
 have f2:=hA.free piv
 have HS0:=PS.start (p:=(fun x y=>Sort.ltInt y x)) (w:=w) hA hap hpb hb rfl
 obtain ⟨v,hv⟩:∃ v,d0[piv]! = v:=⟨_,rfl⟩
 obtain ⟨x0,hx0⟩:∃ x,d0[a]! = x:=⟨_,rfl⟩
 rw [hx0] at c1
 rw [hv] at c2
 rw [hv,hx0] at HS0
 have HS:=Lib.hid HS0
 clear HS0
 have HXV:Hid (a=piv→x0=v):=Lib.hid fun e=>by rw [← hx0,← hv,e]
 clear hv hx0
 obtain ⟨dk,hdk⟩:∃ dk,Sort.swp d0 a piv=dk:=⟨_,rfl⟩
 rw [hdk] at HS
 clear hdk hA
 go_enter Tryz.func305,Tryz.ntmps305
 go_upto_region 1 with fail
 go_cut [8,9] (fun u1 u2 wx=>Hid (u1 = .int .i64 0∧u2 = .bool false)∧Hid (PS (fun x y=>Sort.ltInt y x) v w wx g d0 dk a b (a+1) (b - 1)))
 case first=>
  by_cases e:a=piv
  ·subst e
   obtain rfl:=HXV.out rfl
   go_region
   all_goals go_wp2_with fail
   go_meet
   case rel=>exact ⟨Lib.hid ⟨rfl,rfl⟩,Lib.hid (HS.out.draws _)⟩
  ·go_region
   all_goals go_wp2_with fail
   go_meet
   case rel=>exact ⟨Lib.hid ⟨rfl,rfl⟩,Lib.hid (HS.out.draws _)⟩
 case rest=>
  clear c1 c2 f1 f2 HS
  obtain ⟨_,HP⟩:=hcut
  go_upto_block 0 with fail
  have e1:((a:Int)+1)=((a+1:Nat):Int):=by omega
  have e2:((b:Int) - 1)=((b - 1:Nat):Int):=by omega
  rw [e1,e2]
  clear e1 e2
  obtain ⟨i,hi⟩:∃ i,a+1=i:=⟨_,rfl⟩
  obtain ⟨j,hj⟩:∃ j,b - 1=j:=⟨_,rfl⟩
  rw [hi,hj] at HP ⊢
  have hij:i≤j+1:=by omega
  clear hi hj
  go_upto_block 0 with fail
  go_cut [10] (fun vi wx=>∃ i':Nat,vi = .int .i64 i'∧i≤i'∧Hid (PS (fun x y=>Sort.ltInt y x) v w wx g d0 dk a b i' j)∧Hid (i'≤j→(fun x y=>Sort.ltInt y x) v dk[i']! = false))
  case first=>
   go_wp2_with fail
   go_loopg [10] (j+1) (fun k vi wr=>∃ i':Nat,vi = .int .i64 i'∧j+1 - i'≤k∧i≤i'∧Hid (PS (fun x y=>Sort.ltInt y x) v w wr g d0 dk a b i' j))
   case atStart=>exact ⟨i,rfl,by omega,Nat.le_refl _,HP⟩
   case round=>
    clear HP
    obtain ⟨i',rfl,hk,hm,HP⟩:=hrel
    have h1:=HP.out.2.1.ai
    have h2:=HP.out.2.1.ij
    have h3:=HP.out.2.1.jb
    have h4:=HP.out.2.1.bs
    by_cases hle:i'≤j
    ·have c1:=HP.out.1.cell (i:=i') (by omega)
     have c2:=HP.out.1.cell (i:=a) (by omega)
     rw [HP.out.2.1.av] at c2
     obtain ⟨x,hx⟩:∃ x,dk[i']! = x:=⟨_,rfl⟩
     rw [hx] at c1
     have HX:=Lib.hid hx
     clear hx h4
     have hg:decide ((i':Int)≤(j:Int))=true:=by simp;omega
     by_cases ht:Sort.ltInt x v=true
     ·go_wp2_with fail
      go_quiet ((go_at_call 303;exact Calls.quiet_of_same (less_walk _ _ _)))
      go_wp2
      go_roundg (j+1 - (i'+1))
      case measure=>omega
      case rel=>exact ⟨i'+1,by go_num,Nat.le_refl _,by omega,Lib.hid ((HP.out.draws _).up hle (by rw [HX.out];simp [ht]))⟩
     ·have ht':Sort.ltInt x v=false:=by simpa using ht
      clear ht
      go_wp2_with fail
      go_quiet ((go_at_call 303;exact Calls.quiet_of_same (less_walk _ _ _)))
      go_wp2
      go_meet
      case rel=>exact ⟨i',rfl,hm,Lib.hid (HP.out.draws _),Lib.hid fun _=>by rw [HX.out];simp [ht']⟩
    ·have hg:decide ((i':Int)≤(j:Int))=false:=by simp;omega
     go_wp2_with fail
     go_quiet (fail)
     go_wp2
     go_meet
     case rel=>exact ⟨i',rfl,hm,Lib.hid (HP.out.draws _),Lib.hid fun h=>absurd h hle⟩
  case rest=>
   clear HP
   obtain ⟨i',rfl,hmi,HP,HI⟩:=hcut
   go_upto_block 2 with fail
   go_cut [11] (fun vi wx=>∃ j':Nat,vi = .int .i64 j'∧j'≤j∧Hid (PS (fun x y=>Sort.ltInt y x) v w wx g d0 dk a b i' j')∧Hid (i'≤j'→(fun x y=>Sort.ltInt y x) v dk[j']! = true))
   case first=>
    go_wp2_with fail
    go_loopg [11] (j+1) (fun k vi wr=>∃ j':Nat,vi = .int .i64 j'∧j'+1≤k∧j'≤j∧Hid (PS (fun x y=>Sort.ltInt y x) v w wr g d0 dk a b i' j'))
    case atStart=>exact ⟨j,rfl,by omega,Nat.le_refl _,HP⟩
    case round=>
     clear HP
     obtain ⟨j',rfl,hk,hm,HP⟩:=hrel
     have h1:=HP.out.2.1.ai
     have h2:=HP.out.2.1.ij
     have h3:=HP.out.2.1.jb
     have h4:=HP.out.2.1.bs
     by_cases hle:i'≤j'
     ·have c1:=HP.out.1.cell (i:=j') (by omega)
      have c2:=HP.out.1.cell (i:=a) (by omega)
      rw [HP.out.2.1.av] at c2
      obtain ⟨x,hx⟩:∃ x,dk[j']! = x:=⟨_,rfl⟩
      rw [hx] at c1
      have HX:=Lib.hid hx
      clear hx h4
      have hg:decide ((i':Int)≤(j':Int))=true:=by simp;omega
      by_cases ht:Sort.ltInt x v=false
      ·go_wp2_with fail
       go_quiet ((go_at_call 303;exact Calls.quiet_of_same (less_walk _ _ _)))
       go_wp2
       go_roundg (j' - 1+1)
       case measure=>omega
       case rel=>exact ⟨j' - 1,by go_num,Nat.le_refl _,by omega,Lib.hid ((HP.out.draws _).down hle (by rw [HX.out];simp [ht]))⟩
      ·have ht':Sort.ltInt x v=true:=by simpa using ht
       clear ht
       go_wp2_with fail
       go_quiet ((go_at_call 303;exact Calls.quiet_of_same (less_walk _ _ _)))
       go_wp2
       go_meet
       case rel=>exact ⟨j',rfl,hm,Lib.hid (HP.out.draws _),Lib.hid fun _=>by rw [HX.out];simp [ht']⟩
     ·have hg:decide ((i':Int)≤(j':Int))=false:=by simp;omega
      go_wp2_with fail
      go_quiet (fail)
      go_wp2
      go_meet
      case rel=>exact ⟨j',rfl,hm,Lib.hid (HP.out.draws _),Lib.hid fun h=>absurd h hle⟩
   case rest=>
    clear HP
    obtain ⟨j',rfl,hmj,HP,HJ⟩:=hcut
    by_cases hle:i'≤j'
    ·have hlt:i'<j':=PartI.lt (p:=(fun x y=>Sort.ltInt y x)) (v:=v) (d:=dk) (HI.out (by omega)) (HJ.out hle) hle
     have h1:=HP.out.2.1.ai
     have h3:=HP.out.2.1.jb
     have h4:=HP.out.2.1.bs
     have c1:=HP.out.1.cell (i:=i') (by omega)
     have c2:=HP.out.1.cell (i:=j') (by omega)
     have f1:=HP.out.1.free i'
     have f2:=HP.out.1.free j'
     obtain ⟨x,hx⟩:∃ x,dk[i']! = x:=⟨_,rfl⟩
     obtain ⟨y,hy⟩:∃ y,dk[j']! = y:=⟨_,rfl⟩
     rw [hx] at c1
     rw [hy] at c2
     have HS:=HP.out.swap hlt (HI.out (by omega)) (HJ.out hle)
     rw [hx,hy] at HS
     have HS':=Lib.hid HS
     clear HS hx hy h4
     go_wp2_with fail
     go_region
     all_goals go_wp2_with fail
     go_loopg [10,11] j (fun k vi vj wr=>∃ (i j:Nat) (dk:Array Int),vi = .int .i64 i∧vj = .int .i64 j∧i≤j+1∧j+1 - i≤k∧Hid (PS (fun x y=>Sort.ltInt y x) v w wr g d0 dk a b i j))
     case atStart=>exact ⟨i'+1,j' - 1,_,by go_num,by go_num,by omega,by omega,Lib.hid (HS'.out.draws _)⟩
     case round=>
      clear HP HI HJ HS' c1 c2 f1 f2
      obtain ⟨i,j,dk,rfl,rfl,hij,hk,HP⟩:=hrel
      obtain ⟨wo,hwo⟩:∃ wo,wr=wo:=⟨_,rfl⟩
      rw [hwo] at HP ⊢
      clear hwo wr
      go_upto_block 6 with fail
      go_cut [10] (fun vi wx=>∃ i':Nat,vi = .int .i64 i'∧i≤i'∧Hid (PS (fun x y=>Sort.ltInt y x) v w wx g d0 dk a b i' j)∧Hid (i'≤j→(fun x y=>Sort.ltInt y x) v dk[i']! = false))
      case first=>
       go_wp2_with fail
       go_loopg [10] (j+1) (fun k vi wr=>∃ i':Nat,vi = .int .i64 i'∧j+1 - i'≤k∧i≤i'∧Hid (PS (fun x y=>Sort.ltInt y x) v w wr g d0 dk a b i' j))
       case atStart=>exact ⟨i,rfl,by omega,Nat.le_refl _,HP⟩
       case round=>
        clear HP
        obtain ⟨i',rfl,hk,hm,HP⟩:=hrel
        have h1:=HP.out.2.1.ai
        have h2:=HP.out.2.1.ij
        have h3:=HP.out.2.1.jb
        have h4:=HP.out.2.1.bs
        by_cases hle:i'≤j
        ·have c1:=HP.out.1.cell (i:=i') (by omega)
         have c2:=HP.out.1.cell (i:=a) (by omega)
         rw [HP.out.2.1.av] at c2
         obtain ⟨x,hx⟩:∃ x,dk[i']! = x:=⟨_,rfl⟩
         rw [hx] at c1
         have HX:=Lib.hid hx
         clear hx h4
         have hg:decide ((i':Int)≤(j:Int))=true:=by simp;omega
         by_cases ht:Sort.ltInt x v=true
         ·go_wp2_with fail
          go_quiet ((go_at_call 303;exact Calls.quiet_of_same (less_walk _ _ _)))
          go_wp2
          go_roundg (j+1 - (i'+1))
          case measure=>omega
          case rel=>exact ⟨i'+1,by go_num,Nat.le_refl _,by omega,Lib.hid ((HP.out.draws _).up hle (by rw [HX.out];simp [ht]))⟩
         ·have ht':Sort.ltInt x v=false:=by simpa using ht
          clear ht
          go_wp2_with fail
          go_quiet ((go_at_call 303;exact Calls.quiet_of_same (less_walk _ _ _)))
          go_wp2
          go_meet
          case rel=>exact ⟨i',rfl,hm,Lib.hid (HP.out.draws _),Lib.hid fun _=>by rw [HX.out];simp [ht']⟩
        ·have hg:decide ((i':Int)≤(j:Int))=false:=by simp;omega
         go_wp2_with fail
         go_quiet (fail)
         go_wp2
         go_meet
         case rel=>exact ⟨i',rfl,hm,Lib.hid (HP.out.draws _),Lib.hid fun h=>absurd h hle⟩
      case rest=>
       clear HP
       obtain ⟨i',rfl,hmi,HP,HI⟩:=hcut
       go_upto_block 8 with fail
       go_cut [11] (fun vi wx=>∃ j':Nat,vi = .int .i64 j'∧j'≤j∧Hid (PS (fun x y=>Sort.ltInt y x) v w wx g d0 dk a b i' j')∧Hid (i'≤j'→(fun x y=>Sort.ltInt y x) v dk[j']! = true))
       case first=>
        go_wp2_with fail
        go_loopg [11] (j+1) (fun k vi wr=>∃ j':Nat,vi = .int .i64 j'∧j'+1≤k∧j'≤j∧Hid (PS (fun x y=>Sort.ltInt y x) v w wr g d0 dk a b i' j'))
        case atStart=>exact ⟨j,rfl,by omega,Nat.le_refl _,HP⟩
        case round=>
         clear HP
         obtain ⟨j',rfl,hk,hm,HP⟩:=hrel
         have h1:=HP.out.2.1.ai
         have h2:=HP.out.2.1.ij
         have h3:=HP.out.2.1.jb
         have h4:=HP.out.2.1.bs
         by_cases hle:i'≤j'
         ·have c1:=HP.out.1.cell (i:=j') (by omega)
          have c2:=HP.out.1.cell (i:=a) (by omega)
          rw [HP.out.2.1.av] at c2
          obtain ⟨x,hx⟩:∃ x,dk[j']! = x:=⟨_,rfl⟩
          rw [hx] at c1
          have HX:=Lib.hid hx
          clear hx h4
          have hg:decide ((i':Int)≤(j':Int))=true:=by simp;omega
          by_cases ht:Sort.ltInt x v=false
          ·go_wp2_with fail
           go_quiet ((go_at_call 303;exact Calls.quiet_of_same (less_walk _ _ _)))
           go_wp2
           go_roundg (j' - 1+1)
           case measure=>omega
           case rel=>exact ⟨j' - 1,by go_num,Nat.le_refl _,by omega,Lib.hid ((HP.out.draws _).down hle (by rw [HX.out];simp [ht]))⟩
          ·have ht':Sort.ltInt x v=true:=by simpa using ht
           clear ht
           go_wp2_with fail
           go_quiet ((go_at_call 303;exact Calls.quiet_of_same (less_walk _ _ _)))
           go_wp2
           go_meet
           case rel=>exact ⟨j',rfl,hm,Lib.hid (HP.out.draws _),Lib.hid fun _=>by rw [HX.out];simp [ht']⟩
         ·have hg:decide ((i':Int)≤(j':Int))=false:=by simp;omega
          go_wp2_with fail
          go_quiet (fail)
          go_wp2
          go_meet
          case rel=>exact ⟨j',rfl,hm,Lib.hid (HP.out.draws _),Lib.hid fun h=>absurd h hle⟩
       case rest=>
        clear HP
        obtain ⟨j',rfl,hmj,HP,HJ⟩:=hcut
        by_cases hle:i'≤j'
        ·have hlt:i'<j':=PartI.lt (p:=(fun x y=>Sort.ltInt y x)) (v:=v) (d:=dk) (HI.out (by omega)) (HJ.out hle) hle
         have h1:=HP.out.2.1.ai
         have h3:=HP.out.2.1.jb
         have h4:=HP.out.2.1.bs
         have c1:=HP.out.1.cell (i:=i') (by omega)
         have c2:=HP.out.1.cell (i:=j') (by omega)
         have f1:=HP.out.1.free i'
         have f2:=HP.out.1.free j'
         obtain ⟨x,hx⟩:∃ x,dk[i']! = x:=⟨_,rfl⟩
         obtain ⟨y,hy⟩:∃ y,dk[j']! = y:=⟨_,rfl⟩
         rw [hx] at c1
         rw [hy] at c2
         have HS:=HP.out.swap hlt (HI.out (by omega)) (HJ.out hle)
         rw [hx,hy] at HS
         have HS':=Lib.hid HS
         clear HS hx hy h4
         go_wp2_with fail
         go_region
         all_goals go_wp2_with fail
         go_roundg (j' - 1+1 - (i'+1))
         case measure=>omega
         case rel=>exact ⟨i'+1,j' - 1,_,by go_num,by go_num,by omega,Nat.le_refl _,Lib.hid (HS'.out.draws _)⟩
        ·have h1:=HP.out.2.1.ai
         have h2:=HP.out.2.1.ij
         have h3:=HP.out.2.1.jb
         have h4:=HP.out.2.1.bs
         have c1:=HP.out.1.cell (i:=j') (by omega)
         have c2:=HP.out.1.cell (i:=a) (by omega)
         have hav:=HP.out.2.1.av
         rw [hav] at c2
         have f1:=HP.out.1.free j'
         have f2:=HP.out.1.free a
         have HE0:=HP.out.post (by omega) false
         by_cases e:j'=a
         ·subst e
          rw [hav] at c1 HE0
          have HE:=Lib.hid HE0
          clear HE0 hav c2 f2 h4
          go_wp2_with fail
          go_region
          all_goals go_wp2_with fail
          go_ret2
          exact HE.out _
         ·obtain ⟨x,hx⟩:∃ x,dk[j']! = x:=⟨_,rfl⟩
          rw [hx] at c1 HE0
          have HE:=Lib.hid HE0
          clear HE0 hx hav h4
          go_wp2_with fail
          go_region
          all_goals go_wp2_with fail
          go_ret2
          exact HE.out _
    ·have h1:=HP.out.2.1.ai
     have h2:=HP.out.2.1.ij
     have h3:=HP.out.2.1.jb
     have h4:=HP.out.2.1.bs
     have c1:=HP.out.1.cell (i:=j') (by omega)
     have c2:=HP.out.1.cell (i:=a) (by omega)
     have hav:=HP.out.2.1.av
     rw [hav] at c2
     have f1:=HP.out.1.free j'
     have f2:=HP.out.1.free a
     have HE0:=HP.out.post (by omega) true
     by_cases e:j'=a
     ·subst e
      rw [hav] at c1 HE0
      have HE:=Lib.hid HE0
      clear HE0 hav c2 f2 h4
      go_wp2_with fail
      go_region
      all_goals go_wp2_with fail
      go_ret2
      exact HE.out _
     ·obtain ⟨x,hx⟩:∃ x,dk[j']! = x:=⟨_,rfl⟩
      rw [hx] at c1 HE0
      have HE:=Lib.hid HE0
      clear HE0 hx hav h4
      go_wp2_with fail
      go_region
      all_goals go_wp2_with fail
      go_ret2
      exact HE.out _


def EqPost (w:World) (g:Nat) (v:Int) (d:Array Int) (a b:Nat) (e:Ending) (w':World):Prop:=
 ∃ (m:Nat) (d':Array Int),e = .returned (.int .i64 m)∧Arr w' g d'∧EPost v d d' a b m∧Turn w w' [g]
theorem PS.epost {v:Int} {w wr:World} {g a b i j:Nat} {d0 dk:Array Int} (h:PS (fun x y=> !Sort.ltInt x y) v w wr g d0 dk a b i j) (hij:j<i) (n:Nat) :
  EqPost w g v d0 a b (.returned (.int .i64 i)) (wr.drewN n):=⟨i,dk,rfl,h.1,h.2.1.epost hij,h.2.2.drewN n⟩

set_option maxHeartbeats 12800000 in
set_option maxRecDepth 100000 in
theorem parteq_walk (g cap a b piv:Nat) (d0:Array Int) (w:World) (hA:Arr w g d0) (hap:a≤piv) (hpb:piv<b) (hb:b≤d0.size) (hsz:d0.size≤1000000) :
  Calls Tryz.prog 304 #[.slice (some ⟨g,0,none⟩) d0.size cap,.int .i64 a,.int .i64 b,.int .i64 piv] w (EqPost w g d0[piv]! d0 a b):=by
 have c1:=hA.cell (i:=a) (by omega)
 have c2:=hA.cell (i:=piv) (by omega)
 have f1:=hA.free a
 have f2:=hA.free piv
 have HS0:=PS.start (p:=(fun x y=> !Sort.ltInt x y)) (w:=w) hA hap hpb hb rfl
 obtain ⟨v,hv⟩:∃ v,d0[piv]! = v:=⟨_,rfl⟩
 obtain ⟨x0,hx0⟩:∃ x,d0[a]! = x:=⟨_,rfl⟩
 rw [hx0] at c1
 rw [hv] at c2
 rw [hv,hx0] at HS0
 have HS:=Lib.hid HS0
 clear HS0
 have HXV:Hid (a=piv→x0=v):=Lib.hid fun e=>by rw [← hx0,← hv,e]
 rw [hv]
 clear hv hx0
 obtain ⟨dk,hdk⟩:∃ dk,Sort.swp d0 a piv=dk:=⟨_,rfl⟩
 rw [hdk] at HS
 clear hdk hA
 go_enter Tryz.func304,Tryz.ntmps304
 go_upto_region 1 with fail
 go_cut [8] (fun u1 wx=>Hid (u1 = .int .i64 0)∧Hid (PS (fun x y=> !Sort.ltInt x y) v w wx g d0 dk a b (a+1) (b - 1)))
 case first=>
  by_cases e:a=piv
  ·subst e
   obtain rfl:=HXV.out rfl
   go_region
   all_goals go_wp2_with fail
   go_meet
   case rel=>exact ⟨Lib.hid rfl,Lib.hid (HS.out.draws _)⟩
  ·go_region
   all_goals go_wp2_with fail
   go_meet
   case rel=>exact ⟨Lib.hid rfl,Lib.hid (HS.out.draws _)⟩
 case rest=>
  clear c1 c2 f1 f2 HS
  obtain ⟨_,HP⟩:=hcut
  go_upto_block 0 with fail
  have e1:((a:Int)+1)=((a+1:Nat):Int):=by omega
  have e2:((b:Int) - 1)=((b - 1:Nat):Int):=by omega
  rw [e1,e2]
  clear e1 e2
  obtain ⟨i,hi⟩:∃ i,a+1=i:=⟨_,rfl⟩
  obtain ⟨j,hj⟩:∃ j,b - 1=j:=⟨_,rfl⟩
  rw [hi,hj] at HP ⊢
  have hij:i≤j+1:=by omega
  clear hi hj
  go_wp2_with fail
  go_loopg [9,10] (j+1) (fun k vi vj wr=>∃ (i j:Nat) (dk:Array Int),vi = .int .i64 i∧vj = .int .i64 j∧i≤j+1∧j+1 - i≤k∧Hid (PS (fun x y=> !Sort.ltInt x y) v w wr g d0 dk a b i j))
  case atStart=>exact ⟨i,j,_,rfl,rfl,hij,by omega,HP⟩
  case round=>
   clear HP hij
   obtain ⟨i,j,dk,rfl,rfl,hij,hk,HP⟩:=hrel
   obtain ⟨wo,hwo⟩:∃ wo,wr=wo:=⟨_,rfl⟩
   rw [hwo] at HP ⊢
   clear hwo wr
   go_upto_block 2 with fail
   go_cut [9] (fun vi wx=>∃ i':Nat,vi = .int .i64 i'∧i≤i'∧Hid (PS (fun x y=> !Sort.ltInt x y) v w wx g d0 dk a b i' j)∧Hid (i'≤j→(fun x y=> !Sort.ltInt x y) v dk[i']! = false))
   case first=>
    go_wp2_with fail
    go_loopg [9] (j+1) (fun k vi wr=>∃ i':Nat,vi = .int .i64 i'∧j+1 - i'≤k∧i≤i'∧Hid (PS (fun x y=> !Sort.ltInt x y) v w wr g d0 dk a b i' j))
    case atStart=>exact ⟨i,rfl,by omega,Nat.le_refl _,HP⟩
    case round=>
     clear HP
     obtain ⟨i',rfl,hk,hm,HP⟩:=hrel
     have h1:=HP.out.2.1.ai
     have h2:=HP.out.2.1.ij
     have h3:=HP.out.2.1.jb
     have h4:=HP.out.2.1.bs
     by_cases hle:i'≤j
     ·have c1:=HP.out.1.cell (i:=i') (by omega)
      have c2:=HP.out.1.cell (i:=a) (by omega)
      rw [HP.out.2.1.av] at c2
      obtain ⟨x,hx⟩:∃ x,dk[i']! = x:=⟨_,rfl⟩
      rw [hx] at c1
      have HX:=Lib.hid hx
      clear hx h4
      have hg:decide ((i':Int)≤(j:Int))=true:=by simp;omega
      by_cases ht:Sort.ltInt v x=false
      ·go_wp2_with fail
       go_quiet ((go_at_call 303;exact Calls.quiet_of_same (less_walk _ _ _)))
       go_wp2
       go_roundg (j+1 - (i'+1))
       case measure=>omega
       case rel=>exact ⟨i'+1,by go_num,Nat.le_refl _,by omega,Lib.hid ((HP.out.draws _).up hle (by rw [HX.out];simp [ht]))⟩
      ·have ht':Sort.ltInt v x=true:=by simpa using ht
       clear ht
       go_wp2_with fail
       go_quiet ((go_at_call 303;exact Calls.quiet_of_same (less_walk _ _ _)))
       go_wp2
       go_meet
       case rel=>exact ⟨i',rfl,hm,Lib.hid (HP.out.draws _),Lib.hid fun _=>by rw [HX.out];simp [ht']⟩
     ·have hg:decide ((i':Int)≤(j:Int))=false:=by simp;omega
      go_wp2_with fail
      go_quiet (fail)
      go_wp2
      go_meet
      case rel=>exact ⟨i',rfl,hm,Lib.hid (HP.out.draws _),Lib.hid fun h=>absurd h hle⟩
   case rest=>
    clear HP
    obtain ⟨i',rfl,hmi,HP,HI⟩:=hcut
    go_upto_block 4 with fail
    go_cut [10] (fun vi wx=>∃ j':Nat,vi = .int .i64 j'∧j'≤j∧Hid (PS (fun x y=> !Sort.ltInt x y) v w wx g d0 dk a b i' j')∧Hid (i'≤j'→(fun x y=> !Sort.ltInt x y) v dk[j']! = true))
    case first=>
     go_wp2_with fail
     go_loopg [10] (j+1) (fun k vi wr=>∃ j':Nat,vi = .int .i64 j'∧j'+1≤k∧j'≤j∧Hid (PS (fun x y=> !Sort.ltInt x y) v w wr g d0 dk a b i' j'))
     case atStart=>exact ⟨j,rfl,by omega,Nat.le_refl _,HP⟩
     case round=>
      clear HP
      obtain ⟨j',rfl,hk,hm,HP⟩:=hrel
      have h1:=HP.out.2.1.ai
      have h2:=HP.out.2.1.ij
      have h3:=HP.out.2.1.jb
      have h4:=HP.out.2.1.bs
      by_cases hle:i'≤j'
      ·have c1:=HP.out.1.cell (i:=j') (by omega)
       have c2:=HP.out.1.cell (i:=a) (by omega)
       rw [HP.out.2.1.av] at c2
       obtain ⟨x,hx⟩:∃ x,dk[j']! = x:=⟨_,rfl⟩
       rw [hx] at c1
       have HX:=Lib.hid hx
       clear hx h4
       have hg:decide ((i':Int)≤(j':Int))=true:=by simp;omega
       by_cases ht:Sort.ltInt v x=true
       ·go_wp2_with fail
        go_quiet ((go_at_call 303;exact Calls.quiet_of_same (less_walk _ _ _)))
        go_wp2
        go_roundg (j' - 1+1)
        case measure=>omega
        case rel=>exact ⟨j' - 1,by go_num,Nat.le_refl _,by omega,Lib.hid ((HP.out.draws _).down hle (by rw [HX.out];simp [ht]))⟩
       ·have ht':Sort.ltInt v x=false:=by simpa using ht
        clear ht
        go_wp2_with fail
        go_quiet ((go_at_call 303;exact Calls.quiet_of_same (less_walk _ _ _)))
        go_wp2
        go_meet
        case rel=>exact ⟨j',rfl,hm,Lib.hid (HP.out.draws _),Lib.hid fun _=>by rw [HX.out];simp [ht']⟩
      ·have hg:decide ((i':Int)≤(j':Int))=false:=by simp;omega
       go_wp2_with fail
       go_quiet (fail)
       go_wp2
       go_meet
       case rel=>exact ⟨j',rfl,hm,Lib.hid (HP.out.draws _),Lib.hid fun h=>absurd h hle⟩
    case rest=>
     clear HP
     obtain ⟨j',rfl,hmj,HP,HJ⟩:=hcut
     by_cases hle:i'≤j'
     ·have hlt:i'<j':=PartI.lt (p:=(fun x y=> !Sort.ltInt x y)) (v:=v) (d:=dk) (HI.out (by omega)) (HJ.out hle) hle
      have h1:=HP.out.2.1.ai
      have h3:=HP.out.2.1.jb
      have h4:=HP.out.2.1.bs
      have c1:=HP.out.1.cell (i:=i') (by omega)
      have c2:=HP.out.1.cell (i:=j') (by omega)
      have f1:=HP.out.1.free i'
      have f2:=HP.out.1.free j'
      obtain ⟨x,hx⟩:∃ x,dk[i']! = x:=⟨_,rfl⟩
      obtain ⟨y,hy⟩:∃ y,dk[j']! = y:=⟨_,rfl⟩
      rw [hx] at c1
      rw [hy] at c2
      have HS:=HP.out.swap hlt (HI.out (by omega)) (HJ.out hle)
      rw [hx,hy] at HS
      have HS':=Lib.hid HS
      clear HS hx hy h4
      go_wp2_with fail
      go_region
      all_goals go_wp2_with fail
      go_roundg (j' - 1+1 - (i'+1))
      case measure=>omega
      case rel=>exact ⟨i'+1,j' - 1,_,by go_num,by go_num,by omega,Nat.le_refl _,Lib.hid (HS'.out.draws _)⟩
     ·have HE:=HP.out.epost (by omega) 0
      go_wp2
      go_ret
      exact HE
end Go.Proofs.YtdcenblblimkfaaGreat
