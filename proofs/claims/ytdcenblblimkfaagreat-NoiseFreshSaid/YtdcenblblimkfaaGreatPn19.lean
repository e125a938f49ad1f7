/- What a partition of the library's sort leaves, and what a round of it makes of sorted parts. No walk.
The library's order of two numbers; its insertion sort.
The library's heap sort.
The library's heap sort: the two loops.
The library's choice of a pivot: order2, median.
The library's reversal of a range, and its look at whether a range is sorted. -/
import Derived.Test.YtdcenblblimkfaaGreatRows
import Derived.Test.YtdcenblblimkfaaGreatPn05
import Derived.Sort.LotD3
import Derived.Sort.LotA
import Derived.Sort.LotB
import Derived.Deep.QuietTactic
set_option linter.unusedSimpArgs false
set_option linter.unusedVariables false
set_option linter.unnecessarySimpa false
set_option linter.unusedSectionVars false
namespace Go.Proofs.YtdcenblblimkfaaGreat

structure PartI (p:Int→Int→Bool) (v:Int) (d0 d:Array Int) (a b i j:Nat):Prop where
 perm:Sort.PermIn a b d0 d
 av:d[a]! = v
 ai:a<i
 ij:i≤j+1
 jb:j<b
 bs:b≤d.size
 lo:∀ k,a<k→k<i→p v d[k]! = true
 hi:∀ k,j<k→k<b→p v d[k]! = false

section
variable {p:Int→Int→Bool} {v:Int} {d0 d:Array Int} {a b i j:Nat}
theorem PartI.start (hp:Sort.PermIn a b d0 d) (hv:d[a]! = v) (hb:b≤d.size) (hab:a<b):PartI p v d0 d a b (a+1) (b - 1):=
 ⟨hp,hv,by omega,by omega,by omega,hb,fun k h1 h2=>by omega,fun k h1 h2=>by omega⟩
theorem PartI.up (h:PartI p v d0 d a b i j) (hij:i≤j) (ht:p v d[i]! = true):PartI p v d0 d a b (i+1) j:=
 ⟨h.perm,h.av,by have:=h.ai;omega,by omega,h.jb,h.bs,fun k h1 h2=>by
  rcases Nat.lt_or_eq_of_le (Nat.le_of_lt_succ h2) with h3 | h3
  ·exact h.lo k h1 h3
  ·subst h3;exact ht,h.hi⟩
theorem PartI.down (h:PartI p v d0 d a b i j) (hij:i≤j) (ht:p v d[j]! = false):PartI p v d0 d a b i (j - 1):=
 ⟨h.perm,h.av,h.ai,by have:=h.ai;omega,by have:=h.jb;omega,h.bs,h.lo,fun k h1 h2=>by
  by_cases e:k=j
  ·subst e;exact ht
  ·exact h.hi k (by omega) h2⟩
theorem PartI.lt (h1:p v d[i]! = false) (h2:p v d[j]! = true) (hij:i≤j):i<j:=by
 rcases Nat.lt_or_eq_of_le hij with h | h
 ·exact h
 ·subst h;rw [h1] at h2;cases h2
theorem PartI.swap (h:PartI p v d0 d a b i j) (hij:i<j) (h1:p v d[i]! = false) (h2:p v d[j]! = true):PartI p v d0 (Sort.swp d i j) a b (i+1) (j - 1):=by
 have ha:=h.ai
 have hj:=h.jb
 have hb:=h.bs
 have g:=Sort.swp_get d (show i<d.size by omega) (show j<d.size by omega)
 refine ⟨Sort.permIn_trans _ _ _ a b h.perm (Sort.swp_permIn d a b i j (by omega) (by omega) (by omega) hj hb),?_,by omega,by omega,by omega,by rw [Sort.size_swp];exact hb,?_,?_⟩
 ·rw [g,if_neg (by omega),if_neg (by omega)];exact h.av
 ·intro k hk1 hk2
  rw [g,if_neg (by omega)]
  by_cases e:k=i
  ·rw [if_pos e];exact h2
  ·rw [if_neg e];exact h.lo k hk1 (by omega)
 ·intro k hk1 hk2
  rw [g]
  by_cases e:k=j
  ·rw [if_pos e];exact h1
  ·rw [if_neg e,if_neg (by omega)];exact h.hi k (by omega) hk2
end

structure PPost (d0 d:Array Int) (a b m:Nat):Prop where
 perm:Sort.PermIn a b d0 d
 am:a≤m
 mb:m<b
 bs:b≤d.size
 lo:∀ k,a≤k→k<m→Sort.ltInt d[k]! d[m]! = true
 hi:∀ k,m<k→k<b→Sort.ltInt d[k]! d[m]! = false
theorem PartI.post {v:Int} {d0 d:Array Int} {a b i j:Nat} (h:PartI (fun x y=>Sort.ltInt y x) v d0 d a b i j) (hij:j<i):PPost d0 (Sort.swp d j a) a b j:=by
 have ha:=h.ai
 have hi:=h.ij
 have hj:=h.jb
 have hb:=h.bs
 have g:=Sort.swp_get d (show j<d.size by omega) (show a<d.size by omega)
 have hv:(Sort.swp d j a)[j]! = v:=by
  rw [g]
  by_cases e:j=a
  ·rw [if_pos e,e];exact h.av
  ·rw [if_neg e,if_pos rfl];exact h.av
 refine ⟨Sort.permIn_trans _ _ _ a b h.perm (Sort.swp_permIn d a b j a (by omega) hj (Nat.le_refl _) (by omega) hb),by omega,hj,by rw [Sort.size_swp];exact hb,?_,?_⟩
 ·intro k h1 h2
  rw [hv,g]
  by_cases e:k=a
  ·rw [if_pos e];exact h.lo j (by omega) (by omega)
  ·rw [if_neg e,if_neg (by omega)];exact h.lo k (by omega) (by omega)
 ·intro k h1 h2
  rw [hv,g,if_neg (by omega),if_neg (by omega)]
  exact h.hi k h1 h2

structure EPost (v:Int) (d0 d:Array Int) (a b m:Nat):Prop where
 perm:Sort.PermIn a b d0 d
 am:a<m
 mb:m≤b
 bs:b≤d.size
 lo:∀ k,a≤k→k<m→Sort.ltInt v d[k]! = false
 hi:∀ k,m≤k→k<b→Sort.ltInt v d[k]! = true
theorem PartI.epost {v:Int} {d0 d:Array Int} {a b i j:Nat} (h:PartI (fun x y=> !Sort.ltInt x y) v d0 d a b i j) (hij:j<i):EPost v d0 d a b i:=by
 have ha:=h.ai
 have hi:=h.ij
 have hj:=h.jb
 refine ⟨h.perm,ha,by omega,h.bs,?_,?_⟩
 ·intro k h1 h2
  by_cases e:k=a
  ·subst e;rw [h.av];exact Sort.swo_ltInt.irrefl _
  ·simpa using h.lo k (by omega) h2
 ·intro k h1 h2
  simpa using h.hi k (by omega) h2

theorem EPost.round {v:Int} {d3 d4:Array Int} {a b mid:Nat} (h:EPost v d3 d4 a b mid) (ha:0<a) (hB:Sort.Below Sort.ltInt a b d3) (hnl:Sort.ltInt d3[a - 1]! v=false) :
  Sort.Below Sort.ltInt mid b d4∧∀ R,Sort.PermIn mid b d4 R→Sort.SortedIn Sort.ltInt mid b R→Sort.PermIn a b d3 R∧Sort.SortedIn Sort.ltInt a b R:=by
 have hS:=Sort.swo_ltInt
 have hb3:b≤d3.size:=by have:=h.bs;rw [h.perm.1] at this;exact this
 have hge:∀ i,a≤i→i<b→Sort.ltInt d3[i]! v=false:=fun i hi hi'=>by
  rcases hB with h0 | hB
  ·omega
  ·exact hS.ntrans _ _ _ (hB i hi hi') hnl
 have hge4:=Sort.permIn_all d3 d4 a b (fun x=>Sort.ltInt x v=false) hb3 h.perm hge
 have ham:=h.am
 refine ⟨Or.inr fun i hi hi'=>?_,fun R hR hs=>⟨Sort.permIn_trans _ _ _ a b h.perm (Sort.permIn_mono _ _ mid b a b (by omega) (Nat.le_refl _) h.bs hR),?_⟩⟩
 ·cases hc:Sort.ltInt d4[i]! d4[mid - 1]! with
  | false=>rfl
  | true=>have:=hS.trans _ _ _ (h.hi i hi hi') hc;rw [h.lo (mid - 1) (by omega) (by omega)] at this;cases this
 ·refine Sort.sorted_glue_eq hS v hs (fun i hi hi'=>?_) (fun i hi hi'=>?_) (Sort.permIn_all d4 R mid b (fun x=>Sort.ltInt v x=true) h.bs hR h.hi)
  ·rw [hR.2.1 i (Or.inl hi')];exact h.lo i hi hi'
  ·rw [hR.2.1 i (Or.inl hi')];exact hge4 i hi (by have:=h.mb;omega)

theorem PPost.left {d3 d4 L:Array Int} {a b mid:Nat} (h:PPost d3 d4 a b mid) (hL:Sort.PermIn a mid d4 L) (hsL:Sort.SortedIn Sort.ltInt a mid L) :
  Sort.Below Sort.ltInt (mid+1) b L∧∀ R,Sort.PermIn (mid+1) b L R→Sort.SortedIn Sort.ltInt (mid+1) b R→Sort.PermIn a b d3 R∧Sort.SortedIn Sort.ltInt a b R:=by
 have hS:=Sort.swo_ltInt
 have ham:=h.am
 have hmb:=h.mb
 have hbL:b≤L.size:=by rw [hL.1];exact h.bs
 have eL:∀ i,mid≤i→L[i]! = d4[i]!:=fun i hi=>hL.2.1 i (Or.inr hi)
 have hge:∀ k,mid<k→k<b→Sort.ltInt L[k]! L[mid]! = false:=fun k h1 h2=>by rw [eL k (by omega),eL mid (Nat.le_refl _)];exact h.hi k h1 h2
 refine ⟨Or.inr fun i hi hi'=>by rw [Nat.add_sub_cancel];exact hge i (by omega) hi',fun R hR hsR=>⟨?_,?_⟩⟩
 ·exact Sort.permIn_trans _ _ _ a b h.perm (Sort.permIn_trans _ _ _ a b (Sort.permIn_mono _ _ a mid a b (Nat.le_refl _) (by omega) h.bs hL) (Sort.permIn_mono _ _ (mid+1) b a b (by omega) (Nat.le_refl _) hbL hR))
 ·have eR:∀ i,i≤mid→R[i]! = L[i]!:=fun i hi=>hR.2.1 i (Or.inl (by omega))
  refine Sort.sorted_glue hS (hsL.congr fun i _ hi'=>eR i (by omega)) hsR (fun i hi hi'=>?_) (fun i hi hi'=>?_)
  ·rw [eR i (by omega),eR mid (Nat.le_refl _),eL mid (Nat.le_refl _)]
   exact Sort.permIn_all d4 L a mid (fun x=>Sort.ltInt x d4[mid]! = true) (by have:=h.bs;omega) hL h.lo i hi hi'
  ·rw [eR mid (Nat.le_refl _)]
   exact Sort.permIn_all L R (mid+1) b (fun x=>Sort.ltInt x L[mid]! = false) hbL hR (fun k hk hk'=>hge k (by omega) hk') i (by omega) hi'
theorem PPost.right {d3 d4 L:Array Int} {a b mid:Nat} (h:PPost d3 d4 a b mid) (hB:Sort.Below Sort.ltInt a b d3) (hL:Sort.PermIn (mid+1) b d4 L) (hsL:Sort.SortedIn Sort.ltInt (mid+1) b L) :
  Sort.Below Sort.ltInt a mid L∧∀ R,Sort.PermIn a mid L R→Sort.SortedIn Sort.ltInt a mid R→Sort.PermIn a b d3 R∧Sort.SortedIn Sort.ltInt a b R:=by
 have hS:=Sort.swo_ltInt
 have ham:=h.am
 have hmb:=h.mb
 have hb3:b≤d3.size:=by have:=h.bs;rw [h.perm.1] at this;exact this
 have hbL:b≤L.size:=by rw [hL.1];exact h.bs
 have eL:∀ i,i≤mid→L[i]! = d4[i]!:=fun i hi=>hL.2.1 i (Or.inl (by omega))
 have hBa:Sort.Below Sort.ltInt a mid d4:=(hB.perm hb3 h.perm).mono (by omega)
 refine ⟨?_,fun R hR hsR=>⟨?_,?_⟩⟩
 ·rcases hBa with h0 | hBa
  ·exact Or.inl h0
  ·exact Or.inr fun i hi hi'=>by rw [eL i (by omega),eL (a - 1) (by omega)];exact hBa i hi hi'
 ·exact Sort.permIn_trans _ _ _ a b h.perm (Sort.permIn_trans _ _ _ a b (Sort.permIn_mono _ _ (mid+1) b a b (by omega) (Nat.le_refl _) h.bs hL) (Sort.permIn_mono _ _ a mid a b (Nat.le_refl _) (by omega) hbL hR))
 ·have eR:∀ i,mid≤i→R[i]! = L[i]!:=fun i hi=>hR.2.1 i (Or.inr hi)
  refine Sort.sorted_glue hS hsR (hsL.congr fun i hi _=>eR i (by omega)) (fun i hi hi'=>?_) (fun i hi hi'=>?_)
  ·rw [eR mid (Nat.le_refl _),eL mid (Nat.le_refl _)]
   exact Sort.permIn_all L R a mid (fun x=>Sort.ltInt x d4[mid]! = true) (by omega) hR (fun k hk hk'=>by rw [eL k (by omega)];exact h.lo k hk hk') i hi hi'
  ·rw [eR i (by omega),eR mid (Nat.le_refl _),eL mid (Nat.le_refl _)]
   exact Sort.permIn_all d4 L (mid+1) b (fun x=>Sort.ltInt x d4[mid]! = false) h.bs hL (fun k hk hk'=>h.hi k (by omega) hk') i (by omega) hi'

open Go.RowKit

theorem isnan_walk (x:Int) (w:World):Calls Tryz.prog 321 #[.int .u32 x] w fun e w'=>e = .returned (.bool false)∧w'=w:=by
 go_enter Tryz.func321,Tryz.ntmps321
 go_wp2
 go_ret
 exact ⟨by simp,rfl⟩
theorem less_walk (x y:Int) (w:World):Calls Tryz.prog 303 #[.int .u32 x,.int .u32 y] w fun e w'=>e = .returned (.bool (Sort.ltInt x y))∧w'=w:=by
 go_enter Tryz.func303,Tryz.ntmps303
 go_wp2_with (go_at_call 321;refine (isnan_walk _ _).mono ?_;rintro e w' ⟨rfl,rfl⟩)
 go_ret
 exact ⟨rfl,rfl⟩

theorem less_t {x y:Int} (h:Sort.ltInt x y=true) (w:World):Calls Tryz.prog 303 #[.int .u32 x,.int .u32 y] w fun e w'=>e = .returned (.bool true)∧w'=w:=by
 have:=less_walk x y w;rw [h] at this;exact this
theorem less_f {x y:Int} (h:Sort.ltInt x y=false) (w:World):Calls Tryz.prog 303 #[.int .u32 x,.int .u32 y] w fun e w'=>e = .returned (.bool false)∧w'=w:=by
 have:=less_walk x y w;rw [h] at this;exact this
theorem quiet_more {P:Program} {f:FuncId} {args:Array Value} {w:World} {a n:Nat} {v:Value}
  (h:Calls P f args (w.drewN (a+n)) fun e w'=>e = .returned v∧w'=w.drewN (a+n)) :
  Calls P f args (w.drewN (a+n)) fun e w''=>e = .returned v∧∃ m,w''=w.drewN (a+m):=
 h.mono fun _ _ ⟨he,hm⟩=>⟨he,n,hm⟩

def InsI (w wr:World) (g a b j i:Nat) (d dk:Array Int):Prop:=Arr wr g dk∧Sort.PermIn a b d dk∧Sort.Ins Sort.ltInt a j i dk∧Turn w wr [g]
theorem InsI.draws {w wr:World} {g a b j i:Nat} {d dk:Array Int} (h:InsI w wr g a b j i d dk) (n:Nat):InsI w (wr.drewN n) g a b j i d dk:=⟨h.1,h.2.1,h.2.2.1,h.2.2.2.drewN n⟩
theorem InsI.step {w wr:World} {g a b j i:Nat} {d dk:Array Int} (h:InsI w wr g a b (j+1) i d dk) (haj:a≤j) (hji:j+1≤i) (hib:i<b) (hb:b≤d.size) (hl:Sort.ltInt dk[j+1]! dk[j]! = true) :
  InsI w ((wr.setCell ⟨g,j+1,none⟩ (.int .u32 dk[j]!)).setCell ⟨g,j,none⟩ (.int .u32 dk[j+1]!)) g a b j i d (Sort.swp dk (j+1) j):=by
 obtain ⟨h1,h2,h3,h4⟩:=h
 have hs:b≤dk.size:=by rw [h2.1];exact hb
 exact ⟨Arr.swp h1 (by omega) (by omega),Sort.permIn_trans _ _ _ a b h2 (Sort.swp_permIn dk a b (j+1) j (by omega) (by omega) haj (by omega) hs),h3.step hl haj (by omega),
  (h4.setCell (.inl (by simp)) _).setCell (.inl (by simp)) _⟩
def InsO (w wr:World) (g a b i:Nat) (d dk:Array Int):Prop:=Arr wr g dk∧Sort.PermIn a b d dk∧Sort.SortedIn Sort.ltInt a i dk∧Turn w wr [g]
theorem InsO.inner {w wr:World} {g a b i:Nat} {d dk:Array Int} (h:InsO w wr g a b i d dk):InsI w wr g a b i i d dk:=
 ⟨h.1,h.2.1,⟨fun p q h1 h2 h3 _ h5=>h.2.2.1 p q h1 h2 (by omega),fun q h1 h2=>by omega⟩,h.2.2.2⟩
theorem InsI.outer {w wr:World} {g a b j i:Nat} {d dk:Array Int} (h:InsI w wr g a b j i d dk) (hs:j≤a∨Sort.ltInt dk[j]! dk[j - 1]! = false):InsO w wr g a b (i+1) d dk:=
 ⟨h.1,h.2.1,h.2.2.1.stop Sort.swo_ltInt hs,h.2.2.2⟩

set_option maxHeartbeats 4000000 in
set_option maxRecDepth 100000 in
theorem insort_walk (g cap a b:Nat) (d:Array Int) (w:World) (hA:Arr w g d) (hab:a≤b) (hb:b≤d.size) (hsz:d.size≤1000000) :
  Calls Tryz.prog 297 #[.slice (some ⟨g,0,none⟩) d.size cap,.int .i64 a,.int .i64 b] w (SrtPost w g fun d'=>Sort.PermIn a b d d'∧Sort.SortedIn Sort.ltInt a b d'):=by
 have H0:Hid (InsO w w g a b (a+1) d d):=⟨hA,Sort.permIn_refl _ _ _,fun i j h1 h2 h3=>by omega,Turn.refl _ _⟩
 clear hA
 go_enter Tryz.func297,Tryz.ntmps297
 go_wp2
 go_loopw [6] (fun vi wr=>∃ (i:Nat) (dk:Array Int),vi = .int .i64 i∧a+1≤i∧(i≤b∨i=a+1)∧Hid (InsO w wr g a b i d dk)) (fun vi _=>b - (intOf vi).toNat)
 case atStart=>exact ⟨a+1,d,by go_num,Nat.le_refl _,.inr rfl,H0⟩
 case round=>
  obtain ⟨i,dk,rfl,hai,hib,HO⟩:=hrel
  obtain ⟨wo,hwo⟩:∃ wo,wr=wo:=⟨_,rfl⟩
  rw [hwo] at HO ⊢
  clear hwo wr
  by_cases hlt:i<b
  ·have HI:Hid (InsI w wo g a b i i d dk):=InsO.inner HO.out
   clear HO
   go_wp2
   go_loopw [7] (fun vj wr=>∃ (j:Nat) (dk:Array Int),vj = .int .i64 j∧a≤j∧j≤i∧Hid (InsI w wr g a b j i d dk)) (fun vj _=>(intOf vj).toNat)
   case atStart=>exact ⟨i,dk,rfl,by omega,Nat.le_refl _,HI⟩
   case round=>
    clear HI
    obtain ⟨j,dk,rfl,haj,hji,HI⟩:=hrel
    by_cases hja:a<j
    ·obtain ⟨m,rfl⟩:∃ m,j=m+1:=⟨j - 1,by omega⟩
     have hs:b≤dk.size:=by rw [HI.out.2.1.1];exact hb
     have c1:=HI.out.1.cell (i:=m+1) (by omega)
     have c2:=HI.out.1.cell (i:=m) (by omega)
     have f1:=HI.out.1.free (m+1)
     have f2:=HI.out.1.free m
     obtain ⟨x,hx⟩:∃ x,dk[m+1]! = x:=⟨_,rfl⟩
     obtain ⟨y,hy⟩:∃ y,dk[m]! = y:=⟨_,rfl⟩
     rw [hx] at c1
     rw [hy] at c2
     have HX:=Lib.hid hx
     have HY:=Lib.hid hy
     clear hx hy hs
     have hg:decide ((a:Int)<(m:Int)+1)=true:=by simp;omega
     by_cases hl:Sort.ltInt x y=true
     ·go_wp2_with fail
      go_quiet ((go_at_call 303;exact Calls.quiet_of_same (less_walk _ _ _)))
      go_wp2
      go_region
      all_goals go_wp2
      go_roundw
      case rel=>
       refine ⟨m,Sort.swp dk (m+1) m,by go_num,by omega,by omega,Lib.hid ?_⟩
       have H:=HI.out.step (by omega) hji hlt hb (by rw [HX.out,HY.out];exact hl)
       rw [HX.out,HY.out] at H
       exact H.draws _
      case measure=>(simp [intOf]<;>omega)
     ·have hl':Sort.ltInt x y=false:=by simpa using hl
      clear hl
      go_wp2_with fail
      go_quiet ((go_at_call 303;exact Calls.quiet_of_same (less_walk _ _ _)))
      go_wp2
      go_roundw
      case rel=>exact ⟨i+1,dk,by go_num,by omega,by omega,Lib.hid (InsI.outer (HI.out.draws _) (.inr (by rw [Nat.add_sub_cancel,HX.out,HY.out];exact hl')))⟩
      case measure=>simp [intOf];omega
    ·have hg:decide ((a:Int)<(j:Int))=false:=by simp;omega
     go_wp2_with fail
     go_quiet (fail)
     go_wp2
     go_roundw
     case rel=>exact ⟨i+1,dk,by go_num,by omega,by omega,Lib.hid (InsI.outer (HI.out.draws _) (.inl (by omega)))⟩
     case measure=>simp [intOf];omega
  ·go_wp2
   go_end0
   refine ⟨rfl,dk,HO.out.1,⟨HO.out.2.1,?_⟩,HO.out.2.2.2⟩
   exact fun p q h1 h2 h3=>HO.out.2.2.1 p q h1 h2 (by omega)


section
variable {lt:Int→Int→Bool} {hi F root:Nat} {d:Array Int}
theorem sift_end (h:hi≤2*root+1):Sort.siftDown lt hi F root d=d:=by rw [Sort.siftDown,dif_pos h]
theorem sift_two (h:2*root+1+1<hi) (hl:lt d[F+(2*root+1)]! d[F+(2*root+1+1)]! = true) :
  Sort.siftDown lt hi F root d=if lt d[F+root]! d[F+(2*root+1+1)]! = true then Sort.siftDown lt hi F (2*root+1+1) (Sort.swp d (F+root) (F+(2*root+1+1))) else d:=by
 rw [Sort.siftDown,dif_neg (by omega),if_pos (by rw [show F+(2*root+1)+1=F+(2*root+1+1) by omega];simp [h,hl])]
 simp only [show 2*root+2=2*root+1+1 by omega]
 cases lt d[F+root]! d[F+(2*root+1+1)]!<;>simp [h]
theorem sift_one (h:2*root+1<hi) (hl:¬ (2*root+1+1<hi∧lt d[F+(2*root+1)]! d[F+(2*root+1+1)]! = true)) :
  Sort.siftDown lt hi F root d=if lt d[F+root]! d[F+(2*root+1)]! = true then Sort.siftDown lt hi F (2*root+1) (Sort.swp d (F+root) (F+(2*root+1))) else d:=by
 rw [Sort.siftDown,dif_neg (by omega),if_neg (by rw [show F+(2*root+1)+1=F+(2*root+1+1) by omega];simpa using hl)]
 cases lt d[F+root]! d[F+(2*root+1)]!<;>simp
end
def SftI (w wr:World) (g hi F lo root:Nat) (d dk:Array Int):Prop:=Arr wr g dk∧dk.size=d.size∧Sort.siftDown Sort.ltInt hi F root dk=Sort.siftDown Sort.ltInt hi F lo d∧Turn w wr [g]
theorem SftI.step {w wr:World} {g hi F lo root c:Nat} {d dk:Array Int} (h:SftI w wr g hi F lo root d dk) (h1:F+root<d.size) (h2:F+c<d.size)
  (hc:Sort.siftDown Sort.ltInt hi F root dk=Sort.siftDown Sort.ltInt hi F c (Sort.swp dk (F+root) (F+c))) (n:Nat) :
  SftI w (((wr.setCell ⟨g,F+root,none⟩ (.int .u32 dk[F+c]!)).setCell ⟨g,F+c,none⟩ (.int .u32 dk[F+root]!)).drewN n) g hi F lo c d (Sort.swp dk (F+root) (F+c)):=by
 obtain ⟨a1,a2,a3,a4⟩:=h
 exact ⟨a1.swp (by omega) (by omega),by rw [Sort.size_swp];exact a2,hc.symm.trans a3,((a4.setCell (.inl (by simp)) _).setCell (.inl (by simp)) _).drewN n⟩
theorem SftI.stop {w wr:World} {g hi F lo root:Nat} {d dk:Array Int} (h:SftI w wr g hi F lo root d dk) (he:Sort.siftDown Sort.ltInt hi F root dk=dk) (n:Nat) :
  SrtPost w g (fun d'=>d'=Sort.siftDown Sort.ltInt hi F lo d) (.returned (.tuple #[])) (wr.drewN n):=⟨rfl,dk,h.1,he.symm.trans h.2.2.1,h.2.2.2.drewN n⟩

set_option maxHeartbeats 12800000 in
set_option maxRecDepth 100000 in
theorem sift_walk (g cap lo hi F:Nat) (d:Array Int) (w:World) (hA:Arr w g d) (hlo:lo≤hi) (hs:F+hi≤d.size) (hsz:d.size≤1000000) :
  Calls Tryz.prog 316 #[.slice (some ⟨g,0,none⟩) d.size cap,.int .i64 lo,.int .i64 hi,.int .i64 F] w (SrtPost w g fun d'=>d'=Sort.siftDown Sort.ltInt hi F lo d):=by
 have H0:Hid (SftI w w g hi F lo lo d d):=⟨hA,rfl,rfl,Turn.refl _ _⟩
 clear hA
 go_enter Tryz.func316,Tryz.ntmps316
 go_wp2
 go_loopg [8] (hi - lo) (fun k vr wr=>∃ (root:Nat) (dk:Array Int),vr = .int .i64 root∧root≤hi∧hi - root≤k∧Hid (SftI w wr g hi F lo root d dk))
 case atStart=>exact ⟨lo,d,rfl,hlo,Nat.le_refl _,H0⟩
 case round=>
  clear H0
  obtain ⟨root,dk,rfl,hr,hk,HI⟩:=hrel
  by_cases h1:2*root+1<hi
  ·have hds:d.size=dk.size:=HI.out.2.1.symm
   have cr:=HI.out.1.cell (i:=F+root) (by omega)
   have cy:=HI.out.1.cell (i:=F+(2*root+1)) (by omega)
   have fr:=HI.out.1.free (F+root)
   have fy:=HI.out.1.free (F+(2*root+1))
   by_cases h2:2*root+1+1<hi∧Sort.ltInt dk[F+(2*root+1)]! dk[F+(2*root+1+1)]! = true
   ·obtain ⟨h2,hyz⟩:=h2
    have cz:=HI.out.1.cell (i:=F+(2*root+1+1)) (by omega)
    have cz':=HI.out.1.cell (i:=F+(2*root+1)+1) (by omega)
    have fz:=HI.out.1.free (F+(2*root+1+1))
    rw [show F+(2*root+1)+1=F+(2*root+1+1) by omega] at cz'
    have cz'':wr.cell? ⟨g,F+(2*root+1)+1,none⟩=some (.int .u32 dk[F+(2*root+1+1)]!):=by rw [show F+(2*root+1)+1=F+(2*root+1+1) by omega];exact cz
    clear cz'
    have HE:=Lib.hid (sift_two (lt:=Sort.ltInt) (F:=F) (d:=dk) h2 hyz)
    have HS:=Lib.hid (fun hc n=>HI.out.step (c:=2*root+1+1) (by omega) (by omega) hc n)
    have HT:=Lib.hid HI.out.stop
    obtain ⟨x,hx⟩:∃ x,dk[F+root]! = x:=⟨_,rfl⟩
    obtain ⟨y,hy⟩:∃ y,dk[F+(2*root+1)]! = y:=⟨_,rfl⟩
    obtain ⟨z,hz⟩:∃ z,dk[F+(2*root+1+1)]! = z:=⟨_,rfl⟩
    rw [hx,hz] at HS HE
    rw [hx] at cr
    rw [hy] at cy hyz
    rw [hz] at cz cz'' hyz
    clear hx hy hz hds
    have hg:decide (2*(root:Int)+1+1<(hi:Int))=true:=by simp;omega
    by_cases hl:Sort.ltInt x z=true
    ·rw [if_pos hl] at HE
     go_wp2_with fail
     go_quiet ((go_at_call 303;exact Calls.quiet_of_same (less_t hyz _)))
     go_wp2_with fail
     go_quiet ((go_at_call 303;first | exact quiet_more (less_t hl _) | exact quiet_more (less_f hl' _)))
     go_wp2_with fail
     go_region
     all_goals go_wp2
     go_roundg (hi - (2*root+1+1))
     case measure=>omega
     case rel=>exact ⟨2*root+1+1,_,by go_num,by omega,Nat.le_refl _,Lib.hid (HS.out HE.out _)⟩
    ·have hl':Sort.ltInt x z=false:=by simpa using hl
     rw [if_neg hl] at HE
     clear hl
     go_wp2_with fail
     go_quiet ((go_at_call 303;exact Calls.quiet_of_same (less_t hyz _)))
     go_wp2_with fail
     go_quiet ((go_at_call 303;first | exact quiet_more (less_t hl _) | exact quiet_more (less_f hl' _)))
     go_wp2
     refine bodyPost_ret (results_none rfl _ _ _) rfl ?_
     rw [World.drewN_drewN]
     exact HT.out HE.out _
   ·have HE:=Lib.hid (sift_one (lt:=Sort.ltInt) (F:=F) (d:=dk) h1 h2)
    have HS:=Lib.hid (fun hc n=>HI.out.step (c:=2*root+1) (by omega) (by omega) hc n)
    have HT:=Lib.hid HI.out.stop
    by_cases h3:2*root+1+1<hi
    ·have cz'':wr.cell? ⟨g,F+(2*root+1)+1,none⟩=some (.int .u32 dk[F+(2*root+1+1)]!):=HI.out.1.cell (by omega)
     have hyz:Sort.ltInt dk[F+(2*root+1)]! dk[F+(2*root+1+1)]! = false:=by simpa [h3] using h2
     clear h2
     obtain ⟨x,hx⟩:∃ x,dk[F+root]! = x:=⟨_,rfl⟩
     obtain ⟨y,hy⟩:∃ y,dk[F+(2*root+1)]! = y:=⟨_,rfl⟩
     obtain ⟨z,hz⟩:∃ z,dk[F+(2*root+1+1)]! = z:=⟨_,rfl⟩
     rw [hx,hy] at HS HE
     rw [hx] at cr
     rw [hy] at cy hyz
     rw [hz] at cz'' hyz
     clear hx hy hz hds
     have hg:decide (2*(root:Int)+1+1<(hi:Int))=true:=by simp;omega
     by_cases hl:Sort.ltInt x y=true
     ·rw [if_pos hl] at HE
      go_wp2_with fail
      go_quiet ((go_at_call 303;exact Calls.quiet_of_same (less_f hyz _)))
      go_wp2_with fail
      go_quiet ((go_at_call 303;first | exact quiet_more (less_t hl _) | exact quiet_more (less_f hl' _)))
      go_wp2_with fail
      go_region
      all_goals go_wp2
      go_roundg (hi - (2*root+1))
      case measure=>omega
      case rel=>exact ⟨2*root+1,_,by go_num,by omega,Nat.le_refl _,Lib.hid (HS.out HE.out _)⟩
     ·have hl':Sort.ltInt x y=false:=by simpa using hl
      rw [if_neg hl] at HE
      clear hl
      go_wp2_with fail
      go_quiet ((go_at_call 303;exact Calls.quiet_of_same (less_f hyz _)))
      go_wp2_with fail
      go_quiet ((go_at_call 303;first | exact quiet_more (less_t hl _) | exact quiet_more (less_f hl' _)))
      go_wp2
      refine bodyPost_ret (results_none rfl _ _ _) rfl ?_
      rw [World.drewN_drewN]
      exact HT.out HE.out _
    ·clear h2
     obtain ⟨x,hx⟩:∃ x,dk[F+root]! = x:=⟨_,rfl⟩
     obtain ⟨y,hy⟩:∃ y,dk[F+(2*root+1)]! = y:=⟨_,rfl⟩
     rw [hx,hy] at HS HE
     rw [hx] at cr
     rw [hy] at cy
     clear hx hy hds
     have hg:decide (2*(root:Int)+1+1<(hi:Int))=false:=by simp;omega
     by_cases hl:Sort.ltInt x y=true
     ·rw [if_pos hl] at HE
      go_wp2_with fail
      go_quiet (fail)
      go_wp2_with fail
      go_quiet ((go_at_call 303;first | exact quiet_more (less_t hl _) | exact quiet_more (less_f hl' _)))
      go_wp2_with fail
      go_region
      all_goals go_wp2
      go_roundg (hi - (2*root+1))
      case measure=>omega
      case rel=>exact ⟨2*root+1,_,by go_num,by omega,Nat.le_refl _,Lib.hid (HS.out HE.out _)⟩
     ·have hl':Sort.ltInt x y=false:=by simpa using hl
      rw [if_neg hl] at HE
      clear hl
      go_wp2_with fail
      go_quiet (fail)
      go_wp2_with fail
      go_quiet ((go_at_call 303;first | exact quiet_more (less_t hl _) | exact quiet_more (less_f hl' _)))
      go_wp2
      refine bodyPost_ret (results_none rfl _ _ _) rfl ?_
      rw [World.drewN_drewN]
      exact HT.out HE.out _
  ·have HT:=HI.out.stop (sift_end (by omega)) 0
   go_wp2
   go_end0
   exact HT


theorem sift_len (hi F:Nat):∀ (n root:Nat) (d:Array Int),hi - root≤n→(Sort.siftDown Sort.ltInt hi F root d).size=d.size:=by
 intro n
 induction n with
 | zero=>intro root d h;rw [sift_end (by omega)]
 | succ n ih=>
  intro root d h
  by_cases h1:hi≤2*root+1
  ·rw [sift_end h1]
  by_cases h2:2*root+1+1<hi∧Sort.ltInt d[F+(2*root+1)]! d[F+(2*root+1+1)]! = true
  ·rw [sift_two h2.1 h2.2]
   split
   ·rw [ih _ _ (by omega),Sort.size_swp]
   ·rfl
  ·rw [sift_one (by omega) h2]
   split
   ·rw [ih _ _ (by omega),Sort.size_swp]
   ·rfl
def HpB (w wr:World) (g h a k k0:Nat) (d dk:Array Int):Prop:=Arr wr g dk∧dk.size=d.size∧Sort.heapBuild Sort.ltInt h a k dk=Sort.heapBuild Sort.ltInt h a k0 d∧Turn w wr [g]
theorem HpB.next {w wr w':World} {g h a k k0:Nat} {d dk d':Array Int} (H:HpB w wr g h a (k+1) k0 d dk) (hA:Arr w' g d') (he:d'=Sort.siftDown Sort.ltInt h a k dk) (ht:Turn wr w' [g]):HpB w w' g h a k k0 d d':=by
 obtain ⟨a1,a2,a3,a4⟩:=H
 exact ⟨hA,by rw [he,sift_len h a (h - k) k dk (Nat.le_refl _),a2],by rw [he];exact a3,a4.trans ht⟩
def HpP (w wr:World) (g a k:Nat) (d r dk:Array Int):Prop:=Arr wr g dk∧dk.size=d.size∧Sort.heapPop Sort.ltInt a k dk=r∧Turn w wr [g]
theorem HpP.next {w wr w':World} {g a k n:Nat} {d r dk d':Array Int} (H:HpP w wr g a (k+1) d r dk) (hA:Arr w' g d') (he:d'=Sort.siftDown Sort.ltInt k a 0 (Sort.swp dk a (a+k)))
  (ht:Turn (((wr.setCell ⟨g,a,none⟩ (.int .u32 dk[a+k]!)).setCell ⟨g,a+k,none⟩ (.int .u32 dk[a]!)).drewN n) w' [g]):HpP w w' g a k d r d':=by
 obtain ⟨a1,a2,a3,a4⟩:=H
 exact ⟨hA,by rw [he,sift_len k a k 0 _ (by omega),Sort.size_swp,a2],by rw [he];exact a3,(((a4.setCell (.inl (by simp)) _).setCell (.inl (by simp)) _).drewN n).trans ht⟩

set_option maxHeartbeats 3200000 in
set_option maxRecDepth 100000 in
theorem heapsort_walk (g cap a b:Nat) (d:Array Int) (w:World) (hA:Arr w g d) (hab:a<b) (hb:b≤d.size) (hsz:d.size≤1000000) :
  Calls Tryz.prog 298 #[.slice (some ⟨g,0,none⟩) d.size cap,.int .i64 a,.int .i64 b] w (SrtPost w g fun d'=>Sort.PermIn a b d d'∧Sort.SortedIn Sort.ltInt a b d'):=by
 obtain ⟨h,hh⟩:∃ h,b - a=h:=⟨_,rfl⟩
 have HR:=Lib.hid (Sort.heapSort_holds Sort.swo_ltInt d a b (by omega) hb)
 unfold Sort.heapSort at HR
 rw [hh] at HR
 have hah:a+h≤d.size:=by omega
 have h1:1≤h:=by omega
 have H0:Hid (HpB w w g h a ((h - 1) / 2+1) ((h - 1) / 2+1) d d):=⟨hA,rfl,rfl,Turn.refl _ _⟩
 clear hA
 have eh:(b:Int) - (a:Int)=(h:Int):=by omega
 have EH:=Lib.hid eh
 clear eh hh
 go_enter Tryz.func298,Tryz.ntmps298
 go_wp2
 rw [EH.out]
 go_loopw [9] (fun vi wr=>∃ (k:Nat) (dk:Array Int),vi = .int .i64 ((k:Int) - 1)∧k≤h∧Hid (HpB w wr g h a k ((h - 1) / 2+1) d dk)) (fun vi _=>(intOf vi+1).toNat)
 case atStart=>exact ⟨(h - 1) / 2+1,d,by go_num,by omega,H0⟩
 case round=>
  clear H0
  obtain ⟨k,dk,rfl,hk,HI⟩:=hrel
  by_cases h0:k=0
  ·subst h0
   rw [show (((0:Nat):Int) - 1) = -1 from rfl]
   obtain ⟨r,hr⟩:∃ r,Sort.heapPop Sort.ltInt a h (Sort.heapBuild Sort.ltInt h a ((h - 1) / 2+1) d)=r:=⟨_,rfl⟩
   rw [hr] at HR
   have H1:Hid (HpP w wr g a h d r dk):=⟨HI.out.1,HI.out.2.1,by rw [← hr,← HI.out.2.2.1];rfl,HI.out.2.2.2⟩
   clear HI hr
   go_wp2
   obtain ⟨wo,hwo⟩:∃ wo,wr=wo:=⟨_,rfl⟩
   rw [hwo] at H1 ⊢
   clear hwo wr
   go_loopw [10] (fun vi wr=>∃ (k:Nat) (dk:Array Int),vi = .int .i64 ((k:Int) - 1)∧k≤h∧Hid (HpP w wr g a k d r dk)) (fun vi _=>(intOf vi+1).toNat)
   case atStart=>exact ⟨h,dk,by go_num,by omega,H1⟩
   case round=>
    clear H1
    obtain ⟨k,dk,rfl,hk,HI⟩:=hrel
    by_cases h0:k=0
    ·subst h0
     go_wp2
     go_end0
     exact ⟨rfl,dk,HI.out.1,(by have:=HI.out.2.2.1;unfold Sort.heapPop at this;rw [this];exact HR.out),HI.out.2.2.2⟩
    ·obtain ⟨m,rfl⟩:∃ m,k=m+1:=⟨k - 1,by omega⟩
     rw [show ((m+1:Nat):Int) - 1=(m:Int) by omega]
     have hs:dk.size=d.size:=HI.out.2.1
     have c1:=HI.out.1.cell (i:=a) (by omega)
     have c2:=HI.out.1.cell (i:=a+m) (by omega)
     have f1:=HI.out.1.free a
     have f2:=HI.out.1.free (a+m)
     have HS:Hid (Arr (((wr.setCell ⟨g,a,none⟩ (.int .u32 dk[a+m]!)).setCell ⟨g,a+m,none⟩ (.int .u32 dk[a]!)).drew) g (Sort.swp dk a (a+m))):=(HI.out.1.swp (by omega) (by omega)).drew
     have HN:=Lib.hid (fun (w':World) (d':Array Int) (n:Nat) hA he ht=>HI.out.next (w':=w') (d':=d') (n:=n) hA he ht)
     by_cases hm:m=0
     ·subst hm
      simp only [Nat.add_zero] at HS HN c2 f2
      obtain ⟨x,hx⟩:∃ x,dk[a]! = x:=⟨_,rfl⟩
      rw [hx] at HS HN c1
      clear hx c2 f2
      have HC:Hid (Calls Tryz.prog 316 #[.slice (some ⟨g,0,none⟩) d.size cap,.int .i64 0,.int .i64 0,.int .i64 a] (((wr.setCell ⟨g,a,none⟩ (.int .u32 x)).setCell ⟨g,a,none⟩ (.int .u32 x)).drew) (SrtPost (((wr.setCell ⟨g,a,none⟩ (.int .u32 x)).setCell ⟨g,a,none⟩ (.int .u32 x)).drew) g fun d'=>d'=Sort.siftDown Sort.ltInt 0 a 0 (Sort.swp dk a a))):=by
       have hc:=sift_walk g cap 0 0 a (Sort.swp dk a a) _ HS.out (by omega) (by rw [Sort.size_swp];omega) (by rw [Sort.size_swp];omega)
       rw [Sort.size_swp,hs] at hc
       exact hc
      clear hs HS
      go_wp2_with fail
      go_region
      all_goals go_wp2_with fail
      (with_reducible refine HC.out.mono ?_)
      rintro e w1 ⟨rfl,d',hA',he,hT⟩
      have HN':=Lib.hid (HN.out w1 d' 1 hA' he hT)
      clear hA' he hT HI HN HC
      go_wp2
      go_roundw
      case rel=>exact ⟨0,d',by go_num,by omega,HN'⟩
      case measure=>simp [intOf]
     ·obtain ⟨x,hx⟩:∃ x,dk[a]! = x:=⟨_,rfl⟩
      obtain ⟨y,hy⟩:∃ y,dk[a+m]! = y:=⟨_,rfl⟩
      rw [hx,hy] at HS HN
      rw [hx] at c1
      rw [hy] at c2
      clear hx hy
      have HC:Hid (Calls Tryz.prog 316 #[.slice (some ⟨g,0,none⟩) d.size cap,.int .i64 0,.int .i64 m,.int .i64 a] (((wr.setCell ⟨g,a,none⟩ (.int .u32 y)).setCell ⟨g,a+m,none⟩ (.int .u32 x)).drew) (SrtPost (((wr.setCell ⟨g,a,none⟩ (.int .u32 y)).setCell ⟨g,a+m,none⟩ (.int .u32 x)).drew) g fun d'=>d'=Sort.siftDown Sort.ltInt m a 0 (Sort.swp dk a (a+m)))):=by
       have hc:=sift_walk g cap 0 m a (Sort.swp dk a (a+m)) _ HS.out (by omega) (by rw [Sort.size_swp];omega) (by rw [Sort.size_swp];omega)
       rw [Sort.size_swp,hs] at hc
       exact hc
      clear hs HS
      go_wp2_with fail
      go_region
      all_goals go_wp2_with fail
      (with_reducible refine HC.out.mono ?_)
      rintro e w1 ⟨rfl,d',hA',he,hT⟩
      have HN':=Lib.hid (HN.out w1 d' 1 hA' he hT)
      clear hA' he hT HI HN HC
      go_wp2
      go_roundw
      case rel=>exact ⟨m,d',by go_num,by omega,HN'⟩
      case measure=>simp [intOf]
  ·obtain ⟨m,rfl⟩:∃ m,k=m+1:=⟨k - 1,by omega⟩
   rw [show ((m+1:Nat):Int) - 1=(m:Int) by omega]
   have hs:dk.size=d.size:=HI.out.2.1
   have HC:Hid (Calls Tryz.prog 316 #[.slice (some ⟨g,0,none⟩) d.size cap,.int .i64 m,.int .i64 h,.int .i64 a] wr (SrtPost wr g fun d'=>d'=Sort.siftDown Sort.ltInt h a m dk)):=by
    have hc:=sift_walk g cap m h a dk _ HI.out.1 (by omega) (by omega) (by omega)
    rw [hs] at hc
    exact hc
   clear hs
   go_wp2_with fail
   (with_reducible refine HC.out.mono ?_)
   rintro e w1 ⟨rfl,d',hA',he,hT⟩
   have HN:=Lib.hid (HI.out.next hA' he hT)
   clear hA' he hT HI
   go_wp2
   go_roundw
   case rel=>exact ⟨m,d',by go_num,by omega,HN⟩
   case measure=>simp [intOf]


def Cnt (w:World) (p:Nat) (s:Nat):Prop:=w.heap[p]? = some (.cells #[.int .i64 s] 3 (0,0))
theorem Cnt.cell {w:World} {p s:Nat} (h:Cnt w p s):w.cell? ⟨p,0,none⟩=some (.int .i64 s):=by unfold Cnt at h;simp [World.cell?,h]
theorem Cnt.free {w:World} {p s:Nat} (h:Cnt w p s):w.frozen? ⟨p,0,none⟩=false:=by unfold Cnt at h;simp [World.frozen?,h]
theorem Cnt.set {w:World} {p s:Nat} (h:Cnt w p s) (t:Nat):Cnt (w.setCell ⟨p,0,none⟩ (.int .i64 t)) p t:=by
 unfold Cnt at *;simp [World.setCell,Array.getElem?_modify,h]
def OrdPost (w:World) (p a b s:Nat) (e:Ending) (w':World):Prop:=
 ∃ x y t:Nat,e = .returned (.tuple #[.int .i64 x,.int .i64 y])∧(x=a∧y=b∨x=b∧y=a)∧t≤s+1∧Cnt w' p t∧Turn w w' [p]

set_option maxHeartbeats 1600000 in
set_option maxRecDepth 100000 in
theorem order2_walk (g cap a b p s:Nat) (d:Array Int) (w:World) (hA:Arr w g d) (hC:Cnt w p s) (ha:a<d.size) (hb:b<d.size) (hs:s≤100) (_hsz:d.size≤1000000) :
  Calls Tryz.prog 324 #[.slice (some ⟨g,0,none⟩) d.size cap,.int .i64 a,.int .i64 b,.pointer (some ⟨p,0,none⟩)] w (OrdPost w p a b s):=by
 have ca:=hA.cell ha
 have cb:=hA.cell hb
 have cp:=hC.cell
 have fp:=hC.free
 have HC:=Lib.hid hC
 clear hC hA
 obtain ⟨x,hx⟩:∃ x,d[a]! = x:=⟨_,rfl⟩
 obtain ⟨y,hy⟩:∃ y,d[b]! = y:=⟨_,rfl⟩
 rw [hx] at ca
 rw [hy] at cb
 clear hx hy
 by_cases hl:Sort.ltInt y x=true
 ·go_enter Tryz.func324,Tryz.ntmps324
  go_wp2_with fail
  go_quiet ((go_at_call 303;exact Calls.quiet_of_same (less_t hl _)))
  go_wp2
  go_ret2
  refine ⟨b,a,s+1,rfl,.inr ⟨rfl,rfl⟩,Nat.le_refl _,?_,?_⟩
  ·exact HC.out.set (s+1)
  ·exact Turn.drewN ((Turn.refl w _).setCell (.inl (by simp)) _) _
 ·have hl':Sort.ltInt y x=false:=by simpa using hl
  clear hl
  go_enter Tryz.func324,Tryz.ntmps324
  go_wp2_with fail
  go_quiet ((go_at_call 303;exact Calls.quiet_of_same (less_f hl' _)))
  go_wp2
  go_ret2
  exact ⟨a,b,s,rfl,.inl ⟨rfl,rfl⟩,by omega,HC.out,(Turn.refl w _).drewN _⟩

def MedPost (w:World) (p a b c s:Nat) (e:Ending) (w':World):Prop:=∃ x t:Nat,e = .returned (.int .i64 x)∧(x=a∨x=b∨x=c)∧t≤s+3∧Cnt w' p t∧Turn w w' [p]

set_option maxHeartbeats 1600000 in
set_option maxRecDepth 100000 in
theorem median_walk (g cap a b c p s:Nat) (d:Array Int) (w:World) (hA:Arr w g d) (hC:Cnt w p s) (hgp:g≠p) (ha:a<d.size) (hb:b<d.size) (hc:c<d.size) (hs:s≤50) (hsz:d.size≤1000000) :
  Calls Tryz.prog 320 #[.slice (some ⟨g,0,none⟩) d.size cap,.int .i64 a,.int .i64 b,.int .i64 c,.pointer (some ⟨p,0,none⟩)] w (MedPost w p a b c s):=by
 have HA:=Lib.hid hA
 have HC:=Lib.hid hC
 clear hA hC
 go_enter Tryz.func320,Tryz.ntmps320
 go_wp2_with fail
 refine (order2_walk g cap a b p s d w HA.out HC.out ha hb (by omega) hsz).mono ?_
 rintro e w1 ⟨x,y,t,rfl,hxy,ht,hC1,hT1⟩
 have HC1:=Lib.hid hC1
 have HA1:=Lib.hid (HA.out.turn hT1 (by simpa using hgp))
 have HT1:=Lib.hid hT1
 have hx:x<d.size:=by omega
 have hy:y<d.size:=by omega
 have HXY:Hid (x=a∧y=b∨x=b∧y=a):=hxy
 clear hC1 hT1 hxy HC HA
 go_wp2_with fail
 refine (order2_walk g cap y c p t d w1 HA1.out HC1.out hy hc (by omega) hsz).mono ?_
 rintro e w2 ⟨x2,y2,t2,rfl,hxy2,ht2,hC2,hT2⟩
 have HC2:=Lib.hid hC2
 have HA2:=Lib.hid (HA1.out.turn hT2 (by simpa using hgp))
 have HT2:=Lib.hid (HT1.out.trans hT2)
 have hx2:x2<d.size:=by omega
 have HXY2:Hid (x2=y∧y2=c∨x2=c∧y2=y):=hxy2
 clear hC2 hT2 hxy2 HC1 HA1
 go_wp2_with fail
 refine (order2_walk g cap x x2 p t2 d w2 HA2.out HC2.out hx hx2 (by omega) hsz).mono ?_
 rintro e w3 ⟨x3,y3,t3,rfl,hxy3,ht3,hC3,hT3⟩
 have HC3:=Lib.hid hC3
 have HT3:=Lib.hid (HT2.out.trans hT3)
 have HXY3:Hid (x3=x∧y3=x2∨x3=x2∧y3=x):=hxy3
 clear hC3 hT3 hxy3
 go_wp2
 go_ret
 refine ⟨y3,t3,rfl,?_,by omega,HC3.out,HT3.out⟩
 have h1:=HXY.out
 have h2:=HXY2.out
 have h3:=HXY3.out
 omega

set_option maxHeartbeats 3200000 in
set_option maxRecDepth 100000 in
theorem pivot_walk (g cap a b:Nat) (d:Array Int) (w:World) (hA:Arr w g d) (hab:a+8≤b) (hb:b≤d.size) (h50:b<a+50) (hsz:d.size≤1000000) :
  Calls Tryz.prog 300 #[.slice (some ⟨g,0,none⟩) d.size cap,.int .i64 a,.int .i64 b] w fun e w'=>
   ∃ p h:Nat,e = .returned (.tuple #[.int .i64 p,.int .i64 h])∧a≤p∧p<b∧h≤2∧Turn w w' []:=by
 have hz:g<w.heap.size:=hA.lt
 have HA0:=Lib.hid (hA.alloc (.cells #[.int .i64 0] 3))
 have HC0:Hid (Cnt (w.alloc (.cells #[.int .i64 0] 3)) w.heap.size 0):=heap_alloc_new w _
 have HT0:=Lib.hid ((Turn.refl w []).alloc (.cells #[.int .i64 0] 3))
 clear hA
 obtain ⟨i,hi⟩:∃ i,a+(b - a) / 4=i:=⟨_,rfl⟩
 obtain ⟨j,hj⟩:∃ j,a+(b - a) / 4*2=j:=⟨_,rfl⟩
 obtain ⟨k,hk⟩:∃ k,a+(b - a) / 4*3=k:=⟨_,rfl⟩
 have ei:(a:Int)+((b:Int) - (a:Int)) / 4=(i:Int):=by omega
 have ej:(a:Int)+((b:Int) - (a:Int)) / 4*2=(j:Int):=by omega
 have ek:(a:Int)+((b:Int) - (a:Int)) / 4*3=(k:Int):=by omega
 have b1:a≤i∧i<b:=by omega
 have b2:a≤j∧j<b:=by omega
 have b3:a≤k∧k<b:=by omega
 obtain ⟨i1,i2⟩:=b1
 obtain ⟨j1,j2⟩:=b2
 obtain ⟨k1,k2⟩:=b3
 clear hi hj hk
 go_enter Tryz.func300,Tryz.ntmps300
 go_wp2_with fail
 refine (median_walk g cap i j k w.heap.size 0 d _ HA0.out HC0.out (by omega) (by omega) (by omega) (by omega) (by omega) hsz).mono ?_
 rintro e w1 ⟨p,t,rfl,hp,ht,hC1,hT1⟩
 have hcp:=hC1.cell
 have HT1:Hid (Turn w w1 []):=Lib.hid (HT0.out.new hT1 (fun q hq=>.inl (by simp at hq;omega)))
 have hp1:a≤p:=by omega
 have hp2:p<b:=by omega
 clear hC1 hT1 hp HA0 HC0 HT0
 by_cases h0:t=0
 ·subst h0
  go_wp2
  go_ret2
  exact ⟨p,1,rfl,hp1,hp2,by omega,HT1.out⟩
 by_cases h12:t=12
 ·omega
 have g0:((t:Int) == 0)=false:=by simp;omega
 have g12:((t:Int) == 12)=false:=by simp;omega
 go_wp2
 go_ret2
 exact ⟨p,0,rfl,hp1,hp2,by omega,HT1.out⟩


def RevI (w wr:World) (g a b:Nat) (d dk:Array Int):Prop:=Arr wr g dk∧Sort.PermIn a b d dk∧Turn w wr [g]
theorem RevI.swap {w wr:World} {g a b i j:Nat} {d dk:Array Int} (h:RevI w wr g a b d dk) (hi:a≤i) (hib:i<b) (hj:a≤j) (hjb:j<b) (hb:b≤d.size) (n:Nat) :
  RevI w (((wr.setCell ⟨g,i,none⟩ (.int .u32 dk[j]!)).setCell ⟨g,j,none⟩ (.int .u32 dk[i]!)).drewN n) g a b d (Sort.swp dk i j):=by
 obtain ⟨h1,h2,h3⟩:=h
 have hs:b≤dk.size:=by rw [h2.1];exact hb
 exact ⟨h1.swp (by omega) (by omega),Sort.permIn_trans _ _ _ a b h2 (Sort.swp_permIn dk a b i j hi hib hj hjb hs),((h3.setCell (.inl (by simp)) _).setCell (.inl (by simp)) _).drewN n⟩

set_option maxHeartbeats 1600000 in
set_option maxRecDepth 100000 in
theorem reverse_walk (g cap a b:Nat) (d:Array Int) (w:World) (hA:Arr w g d) (hab:a<b) (hb:b≤d.size) (hsz:d.size≤1000000) :
  Calls Tryz.prog 301 #[.slice (some ⟨g,0,none⟩) d.size cap,.int .i64 a,.int .i64 b] w (SrtPost w g fun d'=>Sort.PermIn a b d d'):=by
 have H0:Hid (RevI w w g a b d d):=⟨hA,Sort.permIn_refl _ _ _,Turn.refl _ _⟩
 clear hA
 go_enter Tryz.func301,Tryz.ntmps301
 go_wp2
 go_loopw [6,7] (fun vi vj wr=>∃ (i j:Nat) (dk:Array Int),vi = .int .i64 i∧vj = .int .i64 j∧a≤i∧j<b∧i≤j+1∧Hid (RevI w wr g a b d dk)) (fun vi _ _=>b - (intOf vi).toNat)
 case atStart=>exact ⟨a,b - 1,d,rfl,by go_num,Nat.le_refl _,by omega,by omega,H0⟩
 case round=>
  clear H0
  obtain ⟨i,j,dk,rfl,rfl,hi,hj,hij,HI⟩:=hrel
  by_cases hlt:i<j
  ·have hs:dk.size=d.size:=HI.out.2.1.1
   have c1:=HI.out.1.cell (i:=i) (by omega)
   have c2:=HI.out.1.cell (i:=j) (by omega)
   have f1:=HI.out.1.free i
   have f2:=HI.out.1.free j
   have HS:=Lib.hid (fun n=>HI.out.swap (i:=i) (j:=j) hi (by omega) (by omega) hj hb n)
   obtain ⟨x,hx⟩:∃ x,dk[i]! = x:=⟨_,rfl⟩
   obtain ⟨y,hy⟩:∃ y,dk[j]! = y:=⟨_,rfl⟩
   rw [hx,hy] at HS
   rw [hx] at c1
   rw [hy] at c2
   clear hx hy hs
   go_wp2_with fail
   go_region
   all_goals go_wp2
   go_roundw
   case rel=>exact ⟨i+1,j - 1,_,by go_num,by go_num,by omega,by omega,by omega,Lib.hid (HS.out _)⟩
   case measure=>simp [intOf];omega
  ·go_wp2
   go_end0
   exact ⟨rfl,dk,HI.out.1,HI.out.2.1,HI.out.2.2⟩

set_option maxHeartbeats 3200000 in
set_option maxRecDepth 100000 in
theorem partial_walk (g cap a b:Nat) (d:Array Int) (w:World) (hA:Arr w g d) (hab:a<b) (hb:b≤d.size) (h50:b<a+50) (hsz:d.size≤1000000) :
  Calls Tryz.prog 302 #[.slice (some ⟨g,0,none⟩) d.size cap,.int .i64 a,.int .i64 b] w fun e w'=>
   ∃ (r:Bool) (n:Nat),e = .returned (.bool r)∧w'=w.drewN n∧Hid (r=true→Sort.SortedIn Sort.ltInt a b d):=by
 have HA:=Lib.hid hA
 clear hA
 go_enter Tryz.func302,Tryz.ntmps302
 go_wp2
 refine wp_loop_rounds 1 ?_
 rw [rounds_succ]
 go_wp2
 go_loopw [7] (fun vi wr=>∃ (i n:Nat),vi = .int .i64 i∧a+1≤i∧i≤b∧wr=w.drewN n∧Hid (Sort.SortedIn Sort.ltInt a i d)) (fun vi _=>b - (intOf vi).toNat)
 case atStart=>exact ⟨a+1,0,by go_num,Nat.le_refl _,by omega,rfl,Lib.hid fun i j h1 h2 h3=>by omega⟩
 case round=>
  obtain ⟨i,n,rfl,hi,hib,rfl,HS⟩:=hrel
  by_cases hlt:i<b
  ·obtain ⟨m,rfl⟩:∃ m,i=m+1:=⟨i - 1,by omega⟩
   have c1:=HA.out.cell (i:=m+1) (by omega)
   have c2:=HA.out.cell (i:=m) (by omega)
   have hg:decide ((m:Int)+1<(b:Int))=true:=by simp;omega
   have hne:((m:Int)+1 == (b:Int))=false:=by simp;omega
   obtain ⟨x,hx⟩:∃ x,d[m+1]! = x:=⟨_,rfl⟩
   obtain ⟨y,hy⟩:∃ y,d[m]! = y:=⟨_,rfl⟩
   rw [hx] at c1
   rw [hy] at c2
   have HX:=Lib.hid hx
   have HY:=Lib.hid hy
   clear hx hy
   by_cases hl:Sort.ltInt x y=true
   ·go_wp2_with fail
    go_quiet ((go_at_call 303;first | exact Calls.quiet_of_same (less_t hl _) | exact quiet_more (less_t hl _)))
    go_wp2
    go_ret
    exact ⟨false,_,rfl,rfl,Lib.hid (by simp)⟩
   ·have hl':Sort.ltInt x y=false:=by simpa using hl
    clear hl
    go_wp2_with fail
    go_quiet ((go_at_call 303;first | exact Calls.quiet_of_same (less_f hl' _) | exact quiet_more (less_f hl' _)))
    go_wp2
    go_roundw
    case rel=>
     refine ⟨m+1+1,_,by go_num,by omega,by omega,rfl,Lib.hid ?_⟩
     exact Sort.SortedIn.snoc Sort.swo_ltInt HS.out (by rw [Nat.add_sub_cancel,HX.out,HY.out];exact hl')
    case measure=>simp [intOf];omega
  ·obtain rfl:i=b:=by omega
   have hg:decide ((i:Int)<(i:Int))=false:=by simp
   go_wp2_with fail
   go_quiet (fail)
   go_wp2
   go_ret
   exact ⟨true,_,rfl,rfl,Lib.hid fun _=>HS.out⟩
end Go.Proofs.YtdcenblblimkfaaGreat
