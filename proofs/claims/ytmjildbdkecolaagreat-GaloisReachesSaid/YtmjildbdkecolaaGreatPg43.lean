/- The reference's search. -/
import Derived.Test.YtmjildbdkecolaaGreatPg10
import Derived.Test.YtmjildbdkecolaaGreatPg34
set_option linter.unusedSimpArgs false
set_option linter.unusedVariables false
set_option linter.unnecessarySimpa false
set_option linter.unusedSectionVars false
namespace Go.Proofs.YtmjildbdkecolaaGreat
open Go.RowKit Go.Shelf

def PathOk (p:Par) (h:List Int) (want:Int):Prop:=Good p∧IsAuto p.n want∧(h.length:Int)≤2*p.n∧∀ i,i<h.length→IsAuto p.n (h.getD i 0)
def pathR (p:Par) (h:List Int) (want:Int):Option (List Int):=bfs (2*p.n) h want 65 0 [(1,[])]
def PathEnd (B:Nat) (p:Par) (h:List Int) (want:Int) (e:Ending) (w':World):Prop:=
 (¬ PathOk p h want∧e = .returned (.tuple #[.slice none 0 0,.int .i64 2])) ∨
 (PathOk p h want∧pathR p h want=none∧e = .returned (.tuple #[.slice none 0 0,.int .i64 4])) ∨
 ∃ l ao c,PathOk p h want∧pathR p h want=some l∧l.length≤64∧e = .returned (.tuple #[.slice ao l.length c,.int .i64 0])∧RdI w' ao l∧l.length≤c∧c≤maxLen∧∀ b o s,ao=some ⟨b,o,s⟩→B≤b

theorem bfs_none {m:Int} {h:List Int} {want:Int} {f a:Nat} {S:List (Int × List Int)} (hS:S.length≤a):bfs m h want (f+1) a S=none:=by
 unfold bfs;rw [List.getElem?_eq_none hS]
theorem bfs_hit {m:Int} {h:List Int} {want:Int} {f a:Nat} {S:List (Int × List Int)} {px:List Int} (hS:S[a]? = some (want,px)):bfs m h want (f+1) a S=some px:=by
 unfold bfs;rw [hS];simp
theorem bfs_on {m:Int} {h:List Int} {want x:Int} {f a:Nat} {S:List (Int × List Int)} {px:List Int} (hS:S[a]? = some (x,px)) (hx:x≠want):bfs m h want (f+1) a S=bfs m h want f (a+1) (bround m h x px S h.length):=by
 conv=>lhs;unfold bfs
 rw [hS];simp [hx]
theorem mul_bounds {x k z:Int} (h:x*k=z) (hx:0≤x) (hx2:x≤64) (hk:0≤k) (hk2:k≤64):0≤z∧z≤4096:=by
 rw [← h]
 exact ⟨Int.mul_nonneg hx hk,Int.mul_le_mul hx2 hk2 hk (by omega)⟩

set_option maxHeartbeats 12800000 in
set_option maxRecDepth 100000 in
theorem r19path_walk (p:Par) (ca:Option Addr) (cc:Nat) (ao:Option Addr) (hc:Nat) (h:List Int) (want:Int) (w:World) (hin:ParIn w p ca cc) (hrd:RdI w ao h) (hlen:h.length≤200)
  (hh:∀ i,i<h.length → -9223372036854775808≤h.getD i 0∧h.getD i 0≤9223372036854775807) (hw1 : -9223372036854775808≤want) (hw2:want≤9223372036854775807) :
  Calls Tryz.prog 102 #[.agg (p.cells ca cc),.slice ao h.length hc,.int .i64 want] w fun e w'=>PathEnd w.heap.size p h want e w'∧Below w.heap.size w w':=by
 have HC:=Lib.hid (r12check_walk p ca cc (w.alloc (.cells (p.cells ca cc) 25)) (hin.below ((Below.refl _ w).alloc (Nat.le_refl _) _)))
 have HW:Hid (Below w.heap.size w (w.alloc (.cells (p.cells ca cc) 25))):=Lib.hid ((Below.refl _ w).alloc (Nat.le_refl _) _)
 have HBk:Hid (Blk (w.alloc (.cells (p.cells ca cc) 25)) w.heap.size 25 (p.cells ca cc)):=Lib.hid (Blk.new _ _ _)
 obtain ⟨hl,hhl⟩:∃ hl,h.length=hl:=⟨_,rfl⟩
 have HL:=Lib.hid hhl
 rw [hhl] at hlen ⊢
 by_cases hg:Good p
 case neg=>
  have HE:Hid (¬ PathOk p h want):=Lib.hid (fun k=>hg k.1)
  rw [chk_neg hg] at HC
  unfold Par.cells at HC HW HBk ⊢
  clear hin hrd hh hg hhl
  go_enter Tryz.func102,Tryz.ntmps102
  go_wp2_with fail
  (with_reducible refine Calls.mono HC.out ?_)
  rintro e w1 ⟨rfl,hb⟩
  have HB:=Lib.hid hb
  clear hb
  go_wp2
  go_ret2
  exact ⟨.inl ⟨HE.out,rfl⟩,below_step HW.out HB.out⟩
 rw [chk_pos hg] at HC
 have hn4:4≤p.n:=by rcases hg.1 with h | h | h | h<;>omega
 have hn32:p.n≤32:=by rcases hg.1 with h | h | h | h<;>omega
 have HA:=Lib.hid (fun k w=>r13auto_walk p ca cc k w hn4 hn32)
 have HG:=Lib.hid hg
 have HIN:=Lib.hid hin
 have HR:=Lib.hid hrd
 have HH:=Lib.hid hh
 obtain ⟨n,hn⟩:∃ n,p.n=n:=⟨_,rfl⟩
 have HN:=Lib.hid hn
 have HCH:=Lib.hid hin.len
 unfold Par.cells at HC HW HBk HA ⊢
 rw [hn] at HC HW HBk HA hn4 hn32 ⊢
 clear hin hrd hh hg hhl hn
 by_cases ha:IsAuto n want
 case neg=>
  have HE:Hid (¬ PathOk p h want):=Lib.hid (fun k=>ha (HN.out▸k.2.1))
  have HA1:=Lib.hid (fun w=>HA.out want w hw1 hw2)
  rw [tr_neg ha] at HA1
  clear ha HA
  go_enter Tryz.func102,Tryz.ntmps102
  go_wp2_with fail
  (with_reducible refine Calls.mono HC.out ?_)
  rintro e w1 ⟨rfl,hb⟩
  have HB:=Lib.hid hb
  have hbk:Blk w1 w.heap.size 25 _:=HBk.out.below hb
  obtain ⟨c0,c1,c2,c3,c4,c5,c6⟩:=par_cells hbk
  clear hb hbk HBk
  go_wp2_with fail
  (with_reducible refine Calls.mono (HA1.out _) ?_)
  rintro e w2 ⟨rfl,hb⟩
  have HB2:=Lib.hid (below_step (below_step HW.out HB.out) hb)
  clear hb
  go_wp2
  go_ret2
  exact ⟨.inl ⟨HE.out,rfl⟩,HB2.out⟩
 have HA1:=Lib.hid (fun w=>HA.out want w hw1 hw2)
 rw [tr_pos ha] at HA1
 have HAW:Hid (IsAuto n want):=Lib.hid ha
 clear ha
 by_cases hn2:(hl:Int)≤2*n
 case neg=>
  have HE:Hid (¬ PathOk p h want):=Lib.hid (fun k=>hn2 (HN.out▸HL.out▸k.2.2.1))
  have g2:decide (2*n<(hl:Int))=true:=decide_eq_true (by omega)
  clear HA
  go_enter Tryz.func102,Tryz.ntmps102
  go_wp2_with fail
  (with_reducible refine Calls.mono HC.out ?_)
  rintro e w1 ⟨rfl,hb⟩
  have HB:=Lib.hid hb
  have hbk:Blk w1 w.heap.size 25 _:=HBk.out.below hb
  obtain ⟨c0,c1,c2,c3,c4,c5,c6⟩:=par_cells hbk
  clear hbk
  go_wp2_with fail
  (with_reducible refine Calls.mono (HA1.out _) ?_)
  rintro e w2 ⟨rfl,hb2⟩
  have HB2:=Lib.hid (below_step (below_step HW.out HB.out) hb2)
  have hbk:Blk w2 w.heap.size 25 _:=(HBk.out.below hb).below hb2
  obtain ⟨c0,c1,c2,c3,c4,c5,c6⟩:=par_cells hbk
  clear hb hb2 hbk HBk
  go_wp2
  go_ret2
  exact ⟨.inl ⟨HE.out,rfl⟩,HB2.out⟩
 have g2:decide (2*n<(hl:Int))=false:=decide_eq_false (by omega)
 go_enter Tryz.func102,Tryz.ntmps102
 go_wp2_with fail
 (with_reducible refine Calls.mono HC.out ?_)
 rintro e w1 ⟨rfl,hb⟩
 have HB:=Lib.hid hb
 have hbk:Blk w1 w.heap.size 25 _:=HBk.out.below hb
 obtain ⟨c0,c1,c2,c3,c4,c5,c6⟩:=par_cells hbk
 clear hbk
 go_wp2_with fail
 (with_reducible refine Calls.mono (HA1.out _) ?_)
 rintro e w2 ⟨rfl,hb2⟩
 have HB2:=Lib.hid (below_step (below_step HW.out HB.out) hb2)
 have hbk:Blk w2 w.heap.size 25 _:=(HBk.out.below hb).below hb2
 have HK:=Lib.hid hbk
 obtain ⟨c0,c1,c2,c3,c4,c5,c6⟩:=par_cells hbk
 clear hb hb2 hbk HBk HC HW HB HA1
 go_wp2
 go_loopg [8] hl (fun k vi wr=>∃ i:Nat,vi = .int .i64 i∧i≤hl∧hl - i≤k∧Hid (Below w2.heap.size w2 wr)∧Hid (∀ j,j<i→IsAuto n (h.getD j 0)))
 case atStart=>exact ⟨0,rfl,by omega,by omega,Lib.hid (Below.refl _ _),Lib.hid (fun j hj=>absurd hj (Nat.not_lt_zero j))⟩
 case round=>
  obtain ⟨i,rfl,hi,hk,HBr,HP⟩:=hrel
  by_cases hlt:i<hl
  ·obtain ⟨bh,oh,rfl,hcc⟩:=((HR.out.below HB2.out).below HBr.out) i (by rw [HL.out];exact hlt)
   have ch:=hcc i (by rw [HL.out];exact hlt)
   have hb1:=(HH.out i (by rw [HL.out];exact hlt)).1
   have hb2:=(HH.out i (by rw [HL.out];exact hlt)).2
   obtain ⟨x,hx⟩:∃ x,h.getD i 0=x:=⟨_,rfl⟩
   rw [hx] at ch hb1 hb2
   have HX:=Lib.hid hx
   have HAx:=Lib.hid (fun w=>HA.out x w hb1 hb2)
   obtain ⟨c0,c1,c2,c3,c4,c5,c6⟩:=par_cells (HK.out.below HBr.out)
   clear hcc hx
   by_cases hax:IsAuto n x
   ·rw [tr_pos hax] at HAx
    have HP':Hid (∀ j,j<i+1→IsAuto n (h.getD j 0)):=Lib.hid (fun j hj=>by
     rcases Nat.lt_or_eq_of_le (Nat.le_of_lt_succ hj) with hh | rfl
     ·exact HP.out j hh
     ·rw [HX.out];exact hax)
    clear hax
    have HBd:Hid (Below w2.heap.size w2 wr.drew):=Lib.hid (below_step HBr.out (Turn.refl wr []).drew.below)
    go_wp2
    go_region_with (go_at_call 148;refine (HAx.out _).mono ?_;rintro e w3 ⟨rfl,hb⟩;have HB3:=Lib.hid (below_step HBd.out hb);clear hb)
    all_goals (
     go_wp2
     go_roundg (hl - (i+1))
     case measure=>omega
     case rel=>exact ⟨i+1,by go_num,by omega,Nat.le_refl _,HB3,HP'⟩)
   ·rw [tr_neg hax] at HAx
    have HE:Hid (¬ PathOk p h want):=Lib.hid (fun k=>hax (by have:=k.2.2.2 i (by rw [HL.out];exact hlt);rw [HX.out,HN.out] at this;exact this))
    have HBd:Hid (Below w2.heap.size w2 wr.drew):=Lib.hid (below_step HBr.out (Turn.refl wr []).drew.below)
    go_wp2
    go_region_with (go_at_call 148;refine (HAx.out _).mono ?_;rintro e w3 ⟨rfl,hb⟩;have HB3:=Lib.hid (below_step HBd.out hb);clear hb)
    all_goals (
     go_wp2
     go_ret2
     exact ⟨.inl ⟨HE.out,rfl⟩,below_step HB2.out HB3.out⟩)
  ·have ei:hl=i:=by omega
   subst ei
   have HOK:Hid (PathOk p h want):=Lib.hid ⟨HG.out,HN.out▸HAW.out,by rw [HL.out,HN.out];exact hn2,fun j hj=>by rw [HN.out];exact HP.out j (by rw [← HL.out];exact hj)⟩
   clear HA HAW
   obtain ⟨wo,rfl⟩:∃ wo,wo=wr:=⟨_,rfl⟩
   go_wp2
   go_loopg [9,10,11] 65 (fun k v9 v10 va wr=>∃ (a sz c9 c10:Nat) (a9 a10:Option Addr) (S:List (Int × List Int)),v9 = .slice a9 sz c9∧v10 = .slice a10 sz c10∧va = .int .i64 a∧a≤sz∧sz≤64∧65 - a≤k ∧
    Hid (S.length=sz∧RMem wr wo.heap.size S (.slice a9 sz c9) (.slice a10 sz c10)∧BInv (2*n) S∧BLen S∧bfs (2*n) h want (65 - a) a S=pathR p h want)∧Hid (Below wo.heap.size wo wr))
   case atStart=>
    refine ⟨0,1,1,1,_,_,[(1,[])],rfl,rfl,rfl,by omega,by omega,by omega,Lib.hid ⟨rfl,RMem.start (Nat.le_refl _),BInv.start (by omega),BLen.start,?_⟩,Lib.hid (((Below.refl _ wo).alloc (Nat.le_refl _) _).alloc (by simp) _)⟩
    unfold pathR
    rw [HN.out]
   case round=>
    obtain ⟨a,sz,c9,c10,a9,a10,S,rfl,rfl,rfl,has,hsz,hk,HS,HBw⟩:=hrel
    by_cases hal:a<sz
    case neg=>
     obtain rfl:a=sz:=by omega
     have HR0:Hid (pathR p h want=none):=Lib.hid (by rw [← HS.out.2.2.2.2,show 65 - a=(64 - a)+1 by omega];exact bfs_none (by rw [HS.out.1];exact Nat.le_refl _))
     have HBf:=Lib.hid (below_step HB2.out (below_step HBr.out HBw.out))
     clear HS HBw HK HB2 HBr
     go_wp2
     go_ret2
     exact ⟨.inr (.inl ⟨HOK.out,HR0.out,rfl⟩),HBf.out⟩
    obtain ⟨⟨x,px⟩,hax⟩:∃ y,S[a]? = some y:=⟨_,List.getElem?_eq_getElem (by rw [HS.out.1];exact hal)⟩
    obtain ⟨b9,o9,b10,o10,ao2,c2,rfl,rfl,d9,d10,hrp⟩:=HS.out.2.1.rd hax
    have HAX:=Lib.hid hax
    by_cases hxw:x=want
    ·have hpl:=HS.out.2.2.2.1 a _ hax
     have HR0:Hid (pathR p h want=some px):=Lib.hid (by rw [← HS.out.2.2.2.2,show 65 - a=(64 - a)+1 by omega];exact bfs_hit (hxw▸hax))
     have HBf:=Lib.hid (below_step HB2.out (below_step HBr.out HBw.out))
     have HRP:=Lib.hid (show _∧_∧_∧(∀ b o s,ao2=some ⟨b,o,s⟩→w.heap.size≤b) from ⟨hrp.1,hrp.2.1,hrp.2.2.1,fun b o s q=>Nat.le_trans (Nat.le_trans HB2.out.size HBr.out.size) (hrp.2.2.2 b o s q)⟩)
     have gx:(x == want)=true:=by simp [hxw]
     simp only at hpl
     clear HS HBw HK HB2 HBr hrp hax HAX
     go_wp2
     go_ret2
     exact ⟨.inr (.inr ⟨px,_,_,HOK.out,HR0.out,by omega,rfl,HRP.out⟩),HBf.out⟩
    have gx:(x == want)=false:=by simp [hxw]
    have HR1:Hid (bfs (2*n) h want (64 - a) (a+1) (bround (2*n) h x px S hl)=pathR p h want):=Lib.hid (by
     rw [← HS.out.2.2.2.2,show 65 - a=(64 - a)+1 by omega,bfs_on hax hxw,HL.out])
    have HS0:Hid (S.length=sz∧RMem wr wo.heap.size S (.slice (some ⟨b9,o9,none⟩) sz c9) (.slice (some ⟨b10,o10,none⟩) sz c10)∧BInv (2*n) S∧BLen S):=Lib.hid ⟨HS.out.1,HS.out.2.1,HS.out.2.2.1,HS.out.2.2.2.1⟩
    clear hrp hax hxw HS
    go_wp2
    go_loopg [9,10,12] hl (fun k v9 v10 vi wr=>∃ (i sz c9 c10:Nat) (a9 a10:Option Addr),v9 = .slice a9 sz c9∧v10 = .slice a10 sz c10∧vi = .int .i64 i∧i≤hl∧hl - i≤k∧a<sz∧sz≤64 ∧
     Hid ((bround (2*n) h x px S i).length=sz∧RMem wr wo.heap.size (bround (2*n) h x px S i) (.slice a9 sz c9) (.slice a10 sz c10)∧BInv (2*n) (bround (2*n) h x px S i)∧BLen (bround (2*n) h x px S i))∧Hid (Below wo.heap.size wo wr))
    case atStart=>exact ⟨0,sz,c9,c10,_,_,rfl,rfl,rfl,by omega,by omega,hal,hsz,HS0,HBw⟩
    case round=>
     clear HS0 HBw d9 d10 gx
     obtain ⟨i,sz,c9,c10,a9,a10,rfl,rfl,rfl,hi2,hk2,hal,hsz,HS,HBw⟩:=hrel
     by_cases hil:i<hl
     case neg=>
      have ei:hl=i:=by omega
      subst ei
      go_wp2
      go_roundg (65 - (a+1))
      case measure=>omega
      case rel=>exact ⟨a+1,sz,c9,c10,a9,a10,_,rfl,rfl,by go_num,by omega,hsz,Nat.le_refl _,Lib.hid ⟨HS.out.1,HS.out.2.1,HS.out.2.2.1,HS.out.2.2.2,by rw [show 65 - (a+1)=64 - a by omega];exact HR1.out⟩,HBw⟩
     obtain ⟨S',hS'⟩:∃ S',bround (2*n) h x px S i=S':=⟨_,rfl⟩
     have hax:=bround_get (m:=2*n) (h:=h) (x:=x) (px:=px) HAX.out i
     rw [hS'] at hax
     have HSn:Hid (bround (2*n) h x px S (i+1)=bstep (2*n) x px S' i (h.getD i 0)):=Lib.hid (by rw [← hS'];rfl)
     rw [hS'] at HS
     clear hS'
     obtain ⟨b9,o9,b10,o10,ao2,c2,rfl,rfl,d9,d10,hrp⟩:=HS.out.2.1.rd hax
     have hB0:=below_step HBr.out HBw.out
     obtain ⟨bh,oh,rfl,hcc⟩:=((HR.out.below HB2.out).below hB0) i (by rw [HL.out];exact hil)
     have ch:=hcc i (by rw [HL.out];exact hil)
     have hauto:=HOK.out.2.2.2 i (by rw [HL.out];exact hil)
     obtain ⟨kx,hkx⟩:∃ kx,h.getD i 0=kx:=⟨_,rfl⟩
     rw [hkx] at ch hauto HSn
     rw [HN.out] at hauto
     have hx0:=HS.out.2.2.1.2 (x,px) (List.mem_of_getElem? hax)
     simp only at hx0
     obtain ⟨z,hz⟩:∃ z,x*kx=z:=⟨_,rfl⟩
     have hzb:=mul_bounds hz hx0.1 (by omega) (by have:=hauto.1;omega) (by have:=hauto.2.1;omega)
     obtain ⟨nx,hnx⟩:∃ nx,z % (2*n)=nx:=⟨_,rfl⟩
     have hnx0:0≤nx∧nx<64:=by rw [← hnx];exact ⟨Int.emod_nonneg _ (by omega),Int.lt_of_lt_of_le (Int.emod_lt_of_pos _ (by omega)) (by omega)⟩
     obtain ⟨c0,c1,c2',c3,c4,c5,c6⟩:=par_cells (HK.out.below hB0)
     have hpl:=HS.out.2.2.2 a _ hax
     simp only at hpl
     have HAm:Hid (∀ m,Calls Tryz.prog 172 #[.slice (some ⟨b9,o9,none⟩) sz c9,.int .i64 nx] (wr.drewN m) fun e w'=>e = .returned (.bool ((S'.map Prod.fst).contains nx)) ∧
       RMem w' wo.heap.size S' (.slice (some ⟨b9,o9,none⟩) sz c9) (.slice (some ⟨b10,o10,none⟩) sz c10)∧Below wo.heap.size wo w'):=Lib.hid (fun m=>by
      have hA:=among_walk (some ⟨b9,o9,none⟩) c9 (S'.map Prod.fst) nx (wr.drewN m) (by rw [List.length_map,HS.out.1];omega) (HS.out.2.1.drewN m).rd9
      rw [List.length_map,HS.out.1] at hA
      refine hA.mono ?_
      rintro e w' ⟨h1,rfl⟩
      exact ⟨h1,HS.out.2.1.drewN m,below_step HBw.out ((Turn.refl wr []).drewN m).below⟩)
     have HHX:=Lib.hid hax
     have HNX:Hid (x*kx % (2*n)=nx):=Lib.hid (by rw [hz,hnx])
     have HS1:Hid (S'.length=sz∧BInv (2*n) S'∧BLen S'):=Lib.hid ⟨HS.out.1,HS.out.2.2⟩
     clear hcc hkx hB0 hrp hax HS HBw
     by_cases hcon:(S'.map Prod.fst).contains nx=true
     ·rw [hcon] at HAm
      have HST:Hid (bstep (2*n) x px S' i kx=S'):=Lib.hid (by unfold bstep;rw [HNX.out,if_pos hcon])
      clear hcon
      go_wp2
      go_quiet (fail)
      go_wp2_with fail
      (with_reducible refine Calls.mono (HAm.out _) ?_)
      rintro e w5 ⟨rfl,hR5,hB5⟩
      have HR5:=Lib.hid hR5
      have HB5:=Lib.hid hB5
      clear hR5 hB5
      go_wp2
      go_roundg (hl - (i+1))
      case measure=>omega
      case rel=>exact ⟨i+1,sz,c9,c10,_,_,rfl,rfl,by go_num,by omega,Nat.le_refl _,hal,hsz,Lib.hid (by rw [HSn.out,HST.out];exact ⟨HS1.out.1,HR5.out,HS1.out.2⟩),HB5⟩
     ·have hcf:(S'.map Prod.fst).contains nx=false:=by simpa using hcon
      rw [hcf] at HAm
      have HST:Hid (bstep (2*n) x px S' i kx=S'++[(nx,px++[(i:Int)])]):=Lib.hid (by unfold bstep;rw [HNX.out,if_neg (by rw [hcf];simp)])
      have HI2:Hid (BInv (2*n) (S'++[(nx,px++[(i:Int)])])):=Lib.hid (by rw [← HST.out];exact HS1.out.2.1.step (by omega))
      have HL2:Hid (BLen (S'++[(nx,px++[(i:Int)])])):=Lib.hid (by rw [← HST.out];exact HS1.out.2.2.step HHX.out)
      have hsz2:sz+1≤64:=by
       have:=HI2.out.length (by omega) (by omega)
       rw [List.length_append,HS1.out.1] at this
       exact this
      clear hcon hcf
      go_wp2
      go_quiet (fail)
      go_wp2_with fail
      (with_reducible refine Calls.mono (HAm.out _) ?_)
      rintro e w5 ⟨rfl,hR5,hB5⟩
      obtain ⟨a9',c9',u1,b10',o10',ao3,c3',a2,c2x,u2,a3,c3x,u3,a10',c10',u4,hr1,e10,hcell,hr2,hr3,hr4,hR6,hB6⟩:=hR5.grow HS1.out.1 hB5.size (by omega) HHX.out (by omega) nx i
      cases e10
      have hbl:=World.block_lt_of_cell? u1 _ hcell
      simp only at hbl
      have HR6:=Lib.hid hR6
      have HB6:Hid (Below wo.heap.size wo u4):=Lib.hid (hB5.trans hB6)
      clear hR5 hB5 hR6 hB6
      go_wp2_with (at_builtin;first
       | refine Lib.wpList_append_run _ rfl (.tmp 85) (.tmp 87) 106 106 rfl _ _ rfl rfl _ _ hr1 ?_
       | refine Lib.wpList_append_run _ rfl (.tmp 90) (.tmp 94) 106 106 rfl _ _ rfl rfl _ _ hr2 ?_
       | refine Lib.wpList_append_run _ rfl (.tmp 95) (.tmp 97) 106 106 rfl _ _ rfl rfl _ _ hr3 ?_
       | refine Lib.wpList_append_run _ rfl (.tmp 89) (.tmp 99) 190 190 rfl _ _ rfl rfl _ _ hr4 ?_)
      go_wp2
      go_roundg (hl - (i+1))
      case measure=>omega
      case rel=>exact ⟨i+1,sz+1,c9',c10',_,_,rfl,rfl,by go_num,by omega,Nat.le_refl _,by omega,hsz2,Lib.hid (by rw [HSn.out,HST.out];exact ⟨by rw [List.length_append,HS1.out.1];rfl,HR6.out,HI2.out,HL2.out⟩),HB6⟩
end Go.Proofs.YtmjildbdkecolaaGreat
