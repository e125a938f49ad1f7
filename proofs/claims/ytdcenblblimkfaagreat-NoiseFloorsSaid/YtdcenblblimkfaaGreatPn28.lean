/- The library's sort of numbers of 32 bits: at most 49 of them.
slices.Sort of numbers of 32 bits: at most 49 of them. -/
import Derived.Test.YtdcenblblimkfaaGreatPn20
import Derived.Test.YtdcenblblimkfaaGreatPn19
import Derived.Test.YtdcenblblimkfaaGreatPn27
set_option linter.unusedSimpArgs false
set_option linter.unusedVariables false
set_option linter.unnecessarySimpa false
set_option linter.unusedSectionVars false
namespace Go.Proofs.YtdcenblblimkfaaGreat
open Go.RowKit

def PdqI (w wr:World) (g a b x y:Nat) (d dk:Array Int):Prop:=
 Arr wr g dk∧dk.size=d.size∧y≤d.size∧Sort.Below Sort.ltInt x y dk∧Turn w wr [g]∧∀ R,Sort.PermIn x y dk R→Sort.SortedIn Sort.ltInt x y R→Sort.PermIn a b d R∧Sort.SortedIn Sort.ltInt a b R
section
variable {w wr w':World} {g a b x y m:Nat} {d dk d':Array Int}
theorem PdqI.arr (h:PdqI w wr g a b x y d dk):Arr wr g dk:=h.1
theorem PdqI.len (h:PdqI w wr g a b x y d dk):dk.size=d.size:=h.2.1
theorem PdqI.belL (h:PdqI w wr g a b x y d dk) (hE:PPost dk d' x y m):Sort.Below Sort.ltInt x m d':=(h.2.2.2.1.perm (by rw [h.2.1];exact h.2.2.1) hE.perm).mono (by have:=hE.mb;omega)
theorem PdqI.perm (h:PdqI w wr g a b x y d dk) (hA:Arr w' g d') (hP:Sort.PermIn x y dk d') (ht:Turn wr w' [g]):PdqI w w' g a b x y d d':=by
 obtain ⟨h1,h2,h3,h4,h5,h6⟩:=h
 exact ⟨hA,hP.1.trans h2,h3,h4.perm (by rw [h2];exact h3) hP,h5.trans ht,fun R hR hs=>h6 R (Sort.permIn_trans _ _ _ x y hP hR) hs⟩
theorem PdqI.quiet (h:PdqI w wr g a b x y d dk) (ht:Turn wr w' []):PdqI w w' g a b x y d dk:=
 h.perm (h.1.turn ht (by simp)) (Sort.permIn_refl _ _ _) (ht.mono (by simp))
theorem PdqI.fin (h:PdqI w wr g a b x y d dk) (hA:Arr w' g d') (hP:Sort.PermIn x y dk d') (hS:Sort.SortedIn Sort.ltInt x y d') (ht:Turn wr w' [g]) :
  SrtPost w g (fun d'=>Sort.PermIn a b d d'∧Sort.SortedIn Sort.ltInt a b d') (.returned (.tuple #[])) w':=⟨rfl,d',hA,h.2.2.2.2.2 d' hP hS,h.2.2.2.2.1.trans ht⟩
theorem PdqI.eq {v:Int} (h:PdqI w wr g a b x y d dk) (hE:EPost v dk d' x y m) (h0:0<x) (hl:Sort.ltInt dk[x - 1]! v=false) (hA:Arr w' g d') (ht:Turn wr w' [g]):PdqI w w' g a b m y d d':=by
 obtain ⟨h1,h2,h3,h4,h5,h6⟩:=h
 obtain ⟨r1,r2⟩:=hE.round h0 h4 hl
 exact ⟨hA,hE.perm.1.trans h2,h3,r1,h5.trans ht,fun R hR hs=>h6 R (r2 R hR hs).1 (r2 R hR hs).2⟩
theorem PdqI.left {L:Array Int} (h:PdqI w wr g a b x y d dk) (hE:PPost dk d' x y m) (hL:Sort.PermIn x m d' L) (hs:Sort.SortedIn Sort.ltInt x m L) (hA:Arr w' g L) (ht:Turn wr w' [g]):PdqI w w' g a b (m+1) y d L:=by
 obtain ⟨h1,h2,h3,h4,h5,h6⟩:=h
 obtain ⟨r1,r2⟩:=hE.left hL hs
 exact ⟨hA,hL.1.trans (hE.perm.1.trans h2),h3,r1,h5.trans ht,fun R hR hs=>h6 R (r2 R hR hs).1 (r2 R hR hs).2⟩
theorem PdqI.right {L:Array Int} (h:PdqI w wr g a b x y d dk) (hE:PPost dk d' x y m) (hL:Sort.PermIn (m+1) y d' L) (hs:Sort.SortedIn Sort.ltInt (m+1) y L) (hA:Arr w' g L) (ht:Turn wr w' [g]):PdqI w w' g a b x m d L:=by
 obtain ⟨h1,h2,h3,h4,h5,h6⟩:=h
 obtain ⟨r1,r2⟩:=hE.right h4 hL hs
 have:=hE.mb
 exact ⟨hA,hL.1.trans (hE.perm.1.trans h2),by omega,r1,h5.trans ht,fun R hR hs=>h6 R (r2 R hR hs).1 (r2 R hR hs).2⟩
theorem PPost.belowR (hE:PPost dk d' x y m):Sort.Below Sort.ltInt (m+1) y d':=Or.inr fun i h1 h2=>by rw [Nat.add_sub_cancel];exact hE.hi i (by omega) h2
end
theorem insort_n {n:Nat} (g cap a b:Nat) (d:Array Int) (w:World) (hA:Arr w g d) (hab:a≤b) (hb:b≤n) (hsz:n≤1000000) (hn:d.size=n) :
  Calls Tryz.prog 297 #[.slice (some ⟨g,0,none⟩) n cap,.int .i64 a,.int .i64 b] w (SrtPost w g fun d'=>Sort.PermIn a b d d'∧Sort.SortedIn Sort.ltInt a b d'):=by subst hn;exact insort_walk g cap a b d w hA hab hb hsz
theorem heapsort_n {n:Nat} (g cap a b:Nat) (d:Array Int) (w:World) (hA:Arr w g d) (hab:a<b) (hb:b≤n) (hsz:n≤1000000) (hn:d.size=n) :
  Calls Tryz.prog 298 #[.slice (some ⟨g,0,none⟩) n cap,.int .i64 a,.int .i64 b] w (SrtPost w g fun d'=>Sort.PermIn a b d d'∧Sort.SortedIn Sort.ltInt a b d'):=by subst hn;exact heapsort_walk g cap a b d w hA hab hb hsz
theorem brk_n {n:Nat} (g cap a b:Nat) (d:Array Int) (w:World) (hA:Arr w g d) (hab:a+8≤b) (hb:b≤n) (h50:b<a+50) (hsz:n≤1000000) (hn:d.size=n) :
  Calls Tryz.prog 299 #[.slice (some ⟨g,0,none⟩) n cap,.int .i64 a,.int .i64 b] w (SrtPost w g fun d'=>Sort.PermIn a b d d'):=by subst hn;exact brk_walk g cap a b d w hA hab hb h50 hsz
theorem reverse_n {n:Nat} (g cap a b:Nat) (d:Array Int) (w:World) (hA:Arr w g d) (hab:a<b) (hb:b≤n) (hsz:n≤1000000) (hn:d.size=n) :
  Calls Tryz.prog 301 #[.slice (some ⟨g,0,none⟩) n cap,.int .i64 a,.int .i64 b] w (SrtPost w g fun d'=>Sort.PermIn a b d d'):=by subst hn;exact reverse_walk g cap a b d w hA hab hb hsz
theorem partial_n {n:Nat} (g cap a b:Nat) (d:Array Int) (w:World) (hA:Arr w g d) (hab:a<b) (hb:b≤n) (h50:b<a+50) (hsz:n≤1000000) (hn:d.size=n) :
  Calls Tryz.prog 302 #[.slice (some ⟨g,0,none⟩) n cap,.int .i64 a,.int .i64 b] w fun e w'=>
   ∃ (r:Bool) (n:Nat),e = .returned (.bool r)∧w'=w.drewN n∧Hid (r=true→Sort.SortedIn Sort.ltInt a b d):=by subst hn;exact partial_walk g cap a b d w hA hab hb h50 hsz
theorem pivot_n {n:Nat} (g cap a b:Nat) (d:Array Int) (w:World) (hA:Arr w g d) (hab:a+8≤b) (hb:b≤n) (h50:b<a+50) (hsz:n≤1000000) (hn:d.size=n) :
  Calls Tryz.prog 300 #[.slice (some ⟨g,0,none⟩) n cap,.int .i64 a,.int .i64 b] w fun e w'=>
   ∃ p h:Nat,e = .returned (.tuple #[.int .i64 p,.int .i64 h])∧a≤p∧p<b∧h≤2∧Turn w w' []:=by subst hn;exact pivot_walk g cap a b d w hA hab hb h50 hsz
theorem part_n {n:Nat} (g cap a b piv:Nat) (d0:Array Int) (w:World) (hA:Arr w g d0) (hap:a≤piv) (hpb:piv<b) (hb:b≤n) (hsz:n≤1000000) (hn:d0.size=n) :
  Calls Tryz.prog 305 #[.slice (some ⟨g,0,none⟩) n cap,.int .i64 a,.int .i64 b,.int .i64 piv] w (PartPost w g d0 a b):=by subst hn;exact part_walk g cap a b piv d0 w hA hap hpb hb hsz
theorem parteq_n {n:Nat} (g cap a b piv:Nat) (d0:Array Int) (w:World) (hA:Arr w g d0) (hap:a≤piv) (hpb:piv<b) (hb:b≤n) (hsz:n≤1000000) (hn:d0.size=n) :
  Calls Tryz.prog 304 #[.slice (some ⟨g,0,none⟩) n cap,.int .i64 a,.int .i64 b,.int .i64 piv] w (EqPost w g d0[piv]! d0 a b):=by subst hn;exact parteq_walk g cap a b piv d0 w hA hap hpb hb hsz

set_option maxHeartbeats 12800000 in
set_option maxRecDepth 100000 in
theorem pdq_walk (g cap n:Nat) (hn:n<50):∀ (m a b limit:Nat) (d:Array Int) (w:World),b - a<m→Arr w g d→a≤b→b≤n→d.size=n→Sort.Below Sort.ltInt a b d→limit≤1000 →
  Calls Tryz.prog 281 #[.slice (some ⟨g,0,none⟩) n cap,.int .i64 a,.int .i64 b,.int .i64 limit] w (SrtPost w g fun d'=>Sort.PermIn a b d d'∧Sort.SortedIn Sort.ltInt a b d'):=by
 intro m
 induction m with
 | zero=>intro a b limit d w hm;omega
 | succ m ih=>
  intro a b limit d w hm hA hab hb hs hB hlim
  have IH:=Lib.hid ih
  have H0:Hid (PdqI w w g a b a b d d):=⟨hA,rfl,by omega,hB,Turn.refl _ _,fun R h1 h2=>⟨h1,h2⟩⟩
  have HSZ:=Lib.hid hs
  clear ih hA hB hs
  go_enter Tryz.func281,Tryz.ntmps281
  go_wp2
  go_loopg [1,2,3,8,9] (b - a) (fun k v1 v2 v3 v8 v9 wr=>∃ (x y lim:Nat) (wb wp:Bool) (dk:Array Int),v1 = .int .i64 x∧v2 = .int .i64 y∧v3 = .int .i64 lim∧v8 = .bool wb∧v9 = .bool wp∧a≤x∧x≤y∧y≤b∧y - x≤k∧lim≤1000∧Hid (PdqI w wr g a b x y d dk))
  case atStart=>exact ⟨a,b,limit,true,true,d,rfl,rfl,rfl,rfl,rfl,Nat.le_refl _,hab,Nat.le_refl _,Nat.le_refl _,hlim,H0⟩
  case round=>
   clear H0
   obtain ⟨x,y,lim,wb,wp,dk,rfl,rfl,rfl,rfl,rfl,hax,hxy,hyb,hk,hl,HI⟩:=hrel
   by_cases h12:y≤x+12
   ·go_wp2_with fail
    (with_reducible refine (insort_n g cap x y dk wr HI.out.arr hxy (by omega) (by omega) (HI.out.len.trans HSZ.out)).mono ?_)
    rintro e w1 ⟨rfl,d',hA,⟨hP,hS⟩,hT⟩
    have HF:=Lib.hid (HI.out.fin hA hP hS hT)
    clear hA hP hS hT HI
    go_wp2
    refine bodyPost_ret (results_none rfl _ _ _) rfl ?_
    exact HF.out
   by_cases h0:lim=0
   ·have hq:((lim:Int) == 0)=true:=by simp [h0]
    go_wp2_with fail
    (with_reducible refine (heapsort_n g cap x y dk wr HI.out.arr (by omega) (by omega) (by omega) (HI.out.len.trans HSZ.out)).mono ?_)
    rintro e w1 ⟨rfl,d',hA,⟨hP,hS⟩,hT⟩
    have HF:=Lib.hid (HI.out.fin hA hP hS hT)
    clear hA hP hS hT HI
    go_wp2
    refine bodyPost_ret (results_none rfl _ _ _) rfl ?_
    exact HF.out
   have hq:((lim:Int) == 0)=false:=by simp;omega
   go_upto_if 35 with fail
   go_cut [3] (fun v3 wx=>∃ (lim':Nat) (d1:Array Int),v3 = .int .i64 lim'∧lim'≤1000∧Hid (PdqI w wx g a b x y d d1))
   case first=>
    cases wb
    ·go_wp2_with fail
     (with_reducible refine (brk_n g cap x y dk wr HI.out.arr (by omega) (by omega) (by omega) (by omega) (HI.out.len.trans HSZ.out)).mono ?_)
     rintro e w1 ⟨rfl,d',hA,hP,hT⟩
     have HF:=Lib.hid (HI.out.perm hA hP hT)
     clear hA hP hT HI
     go_wp2_with fail
     go_meet
     case rel=>exact ⟨lim - 1,d',by go_num,by omega,HF⟩
    ·go_wp2_with fail
     go_meet
     case rel=>exact ⟨lim,dk,rfl,hl,HI⟩
   case rest=>
    clear HI hq h0 hl
    obtain ⟨lim,dk,rfl,hl,HI⟩:=hcut
    go_wp2_with fail
    (with_reducible refine (pivot_n g cap x y dk _ HI.out.arr (by omega) (by omega) (by omega) (by omega) (HI.out.len.trans HSZ.out)).mono ?_)
    rintro e w1 ⟨p,h,rfl,hp1,hp2,hh,hT⟩
    have HI1:=Lib.hid (HI.out.quiet hT)
    clear hT HI
    go_upto_if 50 with fail
    go_cut [11,12] (fun v11 v12 wx=>∃ (p h:Nat) (d1:Array Int),v11 = .int .i64 p∧v12 = .int .i64 h∧x≤p∧p<y∧Hid (PdqI w wx g a b x y d d1))
    case first=>
     by_cases h2:h=2
     ·have hq:((h:Int) == 2)=true:=by simp [h2]
      go_wp2_with fail
      (with_reducible refine (reverse_n g cap x y dk _ HI1.out.arr (by omega) (by omega) (by omega) (HI1.out.len.trans HSZ.out)).mono ?_)
      rintro e w2 ⟨rfl,d',hA,hP,hT⟩
      have HF:=Lib.hid (HI1.out.perm hA hP hT)
      clear hA hP hT HI1
      go_wp2_with fail
      go_meet
      case rel=>exact ⟨y - 1 - (p - x),1,d',by go_num,rfl,by omega,by omega,HF⟩
     ·have hq:((h:Int) == 2)=false:=by simp;omega
      go_wp2_with fail
      go_meet
      case rel=>exact ⟨p,h,dk,rfl,rfl,hp1,hp2,HI1⟩
    case rest=>
     clear HI1 hp1 hp2 hh
     obtain ⟨p,h,dk,rfl,rfl,hp1,hp2,HI⟩:=hcut
     go_upto_region 15 with fail
     go_cut [68] (fun v68 wx=>∃ (q:Bool),v68 = .bool q∧Hid (PdqI w wx g a b x y d dk))
     case first=>
      cases wb
      ·go_wp2_with fail
       go_meet
       case rel=>exact ⟨false,rfl,HI⟩
      ·cases wp
       ·go_wp2_with fail
        go_meet
        case rel=>exact ⟨false,rfl,HI⟩
       ·by_cases h1:h=1
        ·have hq:((h:Int) == 1)=true:=by simp [h1]
         go_wp2_with fail
         go_meet
         case rel=>exact ⟨true,rfl,HI⟩
        ·have hq:((h:Int) == 1)=false:=by simp;omega
         go_wp2_with fail
         go_meet
         case rel=>exact ⟨false,rfl,HI⟩
     case rest=>
      clear HI
      obtain ⟨q,rfl,HI⟩:=hcut
      go_upto_if 68 with fail
      go_cut [72] (fun v72 wx=>Hid (v72=v72)∧Hid (PdqI w wx g a b x y d dk))
      case first=>
       cases q
       ·go_wp2_with fail
        go_meet
        case rel=>exact ⟨Lib.hid trivial,HI⟩
       ·go_wp2_with fail
        (with_reducible refine (partial_n g cap x y dk _ HI.out.arr (by omega) (by omega) (by omega) (by omega) (HI.out.len.trans HSZ.out)).mono ?_)
        rintro e w2 ⟨r,nn,rfl,hw,hr⟩
        have HT:Hid (Turn wc w2 []):=by rw [hw];exact (Turn.refl _ _).drewN nn
        clear hw
        cases r
        ·have HF:=Lib.hid (HI.out.quiet HT.out)
         clear HI HT
         go_wp2_with fail
         go_meet
         case rel=>exact ⟨Lib.hid trivial,HF⟩
        ·have HF:=Lib.hid (HI.out.fin (HI.out.quiet HT.out).arr (Sort.permIn_refl _ _ _) (hr.out rfl) (HT.out.mono (by simp)))
         clear HI HT
         go_wp2_with fail
         refine bodyPost_ret (results_none rfl _ _ _) rfl ?_
         exact HF.out
      case rest=>
       clear HI
       obtain ⟨_,HI⟩:=hcut
       go_upto_region 17 with fail
       go_cut [87] (fun v87 wx=>∃ (q:Bool),v87 = .bool q∧Hid (q=true→0<x∧Sort.ltInt dk[x - 1]! dk[p]! = false)∧Hid (PdqI w wx g a b x y d dk))
       case first=>
        by_cases hx0:0<x
        ·obtain ⟨x',rfl⟩:∃ x',x=x'+1:=⟨x - 1,by omega⟩
         have hsz:=HI.out.len
         have hs:=HSZ.out
         have c1:=HI.out.arr.cell (i:=x') (by omega)
         have c2:=HI.out.arr.cell (i:=p) (by omega)
         obtain ⟨u,hu⟩:∃ u,dk[x']! = u:=⟨_,rfl⟩
         obtain ⟨v,hv⟩:∃ v,dk[p]! = v:=⟨_,rfl⟩
         rw [hu] at c1
         rw [hv] at c2
         have HU:=Lib.hid hu
         have HV:=Lib.hid hv
         clear hu hv hsz hs
         have hg:decide ((0:Int)<(x':Int)+1)=true:=decide_eq_true (by omega)
         by_cases hl:Sort.ltInt u v=true
         ·go_quiet ((go_at_call 303;exact Calls.quiet_of_same (less_t hl _)))
          go_wp2_with fail
          go_meet
          case rel=>exact ⟨false,rfl,Lib.hid (by simp),Lib.hid (HI.out.quiet ((Turn.refl _ _).drewN _))⟩
         ·have hl':Sort.ltInt u v=false:=by simpa using hl
          clear hl
          go_quiet ((go_at_call 303;exact Calls.quiet_of_same (less_f hl' _)))
          go_wp2_with fail
          go_meet
          case rel=>exact ⟨true,rfl,Lib.hid fun _=>⟨by omega,by rw [Nat.add_sub_cancel,HU.out,HV.out];exact hl'⟩,Lib.hid (HI.out.quiet ((Turn.refl _ _).drewN _))⟩
        ·have hg:decide ((0:Int)<(x:Int))=false:=by simp;omega
         go_quiet (fail)
         go_wp2_with fail
         go_meet
         case rel=>exact ⟨false,rfl,Lib.hid (by simp),Lib.hid (HI.out.quiet ((Turn.refl _ _).drewN _))⟩
       case rest=>
        clear HI
        obtain ⟨q,rfl,HQ,HI⟩:=hcut
        cases q
        ·go_wp2_with fail
         (with_reducible refine (part_n g cap x y p dk _ HI.out.arr hp1 hp2 (by omega) (by omega) (HI.out.len.trans HSZ.out)).mono ?_)
         rintro e w2 ⟨m1,ap,d',rfl,hA,hP,hT⟩
         have hm1:=hP.am
         have hm2:=hP.mb
         have HS':Hid (d'.size=n):=Lib.hid (hP.perm.1.trans (HI.out.len.trans HSZ.out))
         have HA:=Lib.hid hA
         have HP:=Lib.hid hP
         have HT:=Lib.hid hT
         clear hA hP hT
         by_cases hlr:m1 - x<y - m1
         ·go_wp2_with fail
          (with_reducible refine (IH.out x m1 lim d' w2 (by omega) HA.out hm1 (by omega) HS'.out (HI.out.belL HP.out) hl).mono ?_)
          rintro e w3 ⟨rfl,L,hA,⟨hL,hS⟩,hT⟩
          have HF:=Lib.hid (HI.out.left HP.out hL hS hA (HT.out.trans hT))
          clear hA hL hS hT HI HP HT HA HS'
          go_wp2
          go_roundg (y - (m1+1))
          case measure=>omega
          case rel=>exact ⟨m1+1,y,lim,_,ap,L,by go_num,rfl,rfl,rfl,rfl,by omega,by omega,hyb,Nat.le_refl _,hl,HF⟩
         ·go_wp2_with fail
          rw [show ((m1:Int)+1)=((m1+1:Nat):Int) from by omega]
          (with_reducible refine (IH.out (m1+1) y lim d' w2 (by omega) HA.out (by omega) (by omega) HS'.out HP.out.belowR hl).mono ?_)
          rintro e w3 ⟨rfl,L,hA,⟨hL,hS⟩,hT⟩
          have HF:=Lib.hid (HI.out.right HP.out hL hS hA (HT.out.trans hT))
          clear hA hL hS hT HI HP HT HA HS'
          go_wp2
          go_roundg (m1 - x)
          case measure=>omega
          case rel=>exact ⟨x,m1,lim,_,ap,L,rfl,rfl,rfl,rfl,rfl,by omega,by omega,by omega,Nat.le_refl _,hl,HF⟩
        ·have hx0:=(HQ.out rfl).1
         have HL:=Lib.hid (HQ.out rfl).2
         go_wp2_with fail
         (with_reducible refine (parteq_n g cap x y p dk _ HI.out.arr hp1 hp2 (by omega) (by omega) (HI.out.len.trans HSZ.out)).mono ?_)
         rintro e w2 ⟨m1,d',rfl,hA,hP,hT⟩
         have hm1:=hP.am
         have hm2:=hP.mb
         have HF:=Lib.hid (HI.out.eq hP hx0 HL.out hA hT)
         clear hA hP hT HI HQ HL
         go_wp2
         go_roundg (y - m1)
         case measure=>omega
         case rel=>exact ⟨m1,y,lim,wb,wp,d',rfl,rfl,rfl,rfl,rfl,by omega,by omega,hyb,Nat.le_refl _,hl,HF⟩


theorem sort_walk (g cap:Nat) (d:Array Int) (w:World) (hA:Arr w g d) (h50:d.size<50) :
  Calls Tryz.prog 241 #[.slice (some ⟨g,0,none⟩) d.size cap] w (SrtPost w g fun d'=>Sort.PermIn 0 d.size d d'∧Sort.SortedIn Sort.ltInt 0 d.size d'):=by
 have HB:=Lib.hid (blen_walk d.size w h50)
 have hl:((Lib.bitLen d.size:Nat):Int)=((Lib.bitLen d.size:Nat):Int):=rfl
 obtain ⟨l,hl⟩:∃ l,Lib.bitLen d.size=l:=⟨_,rfl⟩
 have hl2:l≤1000:=by
  rw [← hl]
  have:∀ L:Nat,L<50→Lib.bitLen L≤1000:=by decide
  exact this _ h50
 rw [hl] at HB
 have HP:=Lib.hid (pdq_walk g cap d.size h50 (d.size+1) 0 d.size l d w (by omega) hA (Nat.zero_le _) (Nat.le_refl _) rfl (Or.inl rfl) hl2)
 clear hA hl
 go_enter Tryz.func241,Tryz.ntmps241
 go_wp2_with fail
 (with_reducible refine Calls.mono HB.out ?_)
 rintro e w' ⟨rfl,rfl⟩
 go_wp2_with fail
 (with_reducible refine Calls.mono HP.out ?_)
 rintro e w' ⟨rfl,h⟩
 have H:=Lib.hid h
 clear h
 go_wp2
 go_end0
 exact ⟨rfl,H.out⟩
end Go.Proofs.YtdcenblblimkfaaGreat
