/- The program's search.
Known paths; what the statements of the layer first ask. -/
import Derived.Test.YtmjildbdkecolaaGreatPg23
import Derived.Test.YtmjildbdkecolaaGreatPg43
import Derived.Test.YtmjildbdkecolaaGreatPg35
import Derived.Test.YtmjildbdkecolaaGreatPg12
import Derived.Test.YtmjildbdkecolaaGreatPg09
set_option linter.unusedSimpArgs false
set_option linter.unusedVariables false
set_option linter.unnecessarySimpa false
set_option linter.unusedSectionVars false
namespace Go.Proofs.YtmjildbdkecolaaGreat
open Go.RowKit Go.Shelf

theorem enters_gp1:∀ args w,(callFunc 133 args).run Tryz.prog w = .ok (.enter 133 args) w:=enters_of Tryz.func133 (by kernel_rfl) rfl
theorem start_run (wo:World):∃ u,(Instr.mapUpdate 166 (.map (some wo.heap.size)) (.int .i64 1) (.slice (some ⟨wo.heap.size+1,0,none⟩) 0 0)).run Tryz.prog ((wo.alloc (.map #[] 0)).alloc (.cells #[] 3)) = .ok () u∧Below wo.heap.size wo u∧wo.heap.size+2≤u.heap.size ∧
  ∀ b,b<wo.heap.size→∃ w2,w2=(u.alloc (.cells #[.map (some wo.heap.size)] 166)).alloc (.cells #[.slice none 0 0] 168)∧Blk w2 (u.heap.size+1) 168 #[.slice none 0 0]∧OwI w2 wo.heap.size (.slice none 0 0) [] []∧wo.heap.size≤w2.heap.size ∧
   ∀ w3,PutPost w2 w3 wo.heap.size (u.heap.size+1) [1] []→PMem w3 wo.heap.size wo.heap.size (u.heap.size+1) 0 [(1,[])] [b,u.heap.size]∧Below wo.heap.size wo w3∧Blk w3 u.heap.size 166 #[.map (some wo.heap.size)]:=by
 have T0:Turn (wo.alloc (.map #[] 0)) ((wo.alloc (.map #[] 0)).alloc (.cells #[] 3)) []:=(Turn.refl _ []).alloc _
 obtain ⟨u,hru,hMu,hTu⟩:=((Mp.made wo).turn T0 (by simp)).update (k:=1) (by omega) (by omega) (.slice (some ⟨wo.heap.size+1,0,none⟩) 0 0) (by omega)
 have hB0:Below wo.heap.size wo ((wo.alloc (.map #[] 0)).alloc (.cells #[] 3)):=((Below.refl _ wo).alloc (Nat.le_refl _) _).alloc (by simp) _
 have hBu:Below wo.heap.size wo u:=hB0.trans (hTu.belowN (by simp;omega) (by simp))
 have hs:wo.heap.size+2≤u.heap.size:=by have:=hTu.size;simp at this;omega
 have hg0:Blk ((wo.alloc (.map #[] 0)).alloc (.cells #[] 3)) (wo.heap.size+1) 3 #[]:=by
  have:=Blk.new (wo.alloc (.map #[] 0)) 3 #[]
  rw [World.size_alloc] at this
  exact this
 have hg1:Blk u (wo.heap.size+1) 3 #[]:=hg0.turn hTu (by simp)
 refine ⟨u,hru,hBu,hs,fun b hb=>⟨_,rfl,?_,OwI.nil _ _,by simp;omega,?_⟩⟩
 ·have:=Blk.new (u.alloc (.cells #[.map (some wo.heap.size)] 166)) 168 #[.slice none 0 0]
  rw [World.size_alloc] at this
  exact this
 ·intro w3 hp
  have T2:Turn u ((u.alloc (.cells #[.map (some wo.heap.size)] 166)).alloc (.cells #[.slice none 0 0] 168)) []:=((Turn.refl u []).alloc _).alloc _
  obtain ⟨v',bs',k1,k2,k3,k4⟩:=id hp
  refine ⟨PMem.start (u:=(u.alloc (.cells #[.map (some wo.heap.size)] 166)).alloc (.cells #[.slice none 0 0] 168)) (g:=wo.heap.size+1) (hMu.turn T2 (by simp)) (OwI.turn (.inr ⟨wo.heap.size+1,0,0,#[],rfl,rfl,by omega,hg1,by simp,by simp,by simp,fun j hj=>by simp at hj⟩) T2 (by simp)) (by omega) (by omega) (by omega) (Nat.le_refl _) (by omega) (by simp) ?_ hp,?_,?_⟩
  ·intro y hy
   simp only [List.mem_cons,List.not_mem_nil,or_false] at hy
   simp only [World.size_alloc]
   rcases hy with rfl | rfl<;>omega
  ·exact (hBu.trans (T2.belowN (by omega) (by simp))).trans (k3.belowN (by simp;omega) (by simp;omega))
  ·exact ((Blk.new u _ _).alloc _).turn k3 (by simp)

set_option maxHeartbeats 12800000 in
set_option maxRecDepth 100000 in
theorem gpath_walk (p:Par) (ca:Option Addr) (cc:Nat) (ao:Option Addr) (hc:Nat) (h:List Int) (want:Int) (w:World) (hin:ParIn w p ca cc) (hrd:RdI w ao h) (hlen:h.length≤200)
  (hh:∀ i,i<h.length → -9223372036854775808≤h.getD i 0∧h.getD i 0≤9223372036854775807) (hw1 : -9223372036854775808≤want) (hw2:want≤9223372036854775807) :
  Calls Tryz.prog 64 #[.agg (p.cells ca cc),.slice ao h.length hc,.int .i64 want] w fun e w'=>PathEnd w.heap.size p h want e w'∧Below w.heap.size w w':=by
 have HC:=Lib.hid (pcheck_walk p ca cc (w.alloc (.cells (p.cells ca cc) 25)) (hin.below ((Below.refl _ w).alloc (Nat.le_refl _) _)))
 have HW:Hid (Below w.heap.size w (w.alloc (.cells (p.cells ca cc) 25))):=Lib.hid ((Below.refl _ w).alloc (Nat.le_refl _) _)
 have HBk:Hid (Blk (w.alloc (.cells (p.cells ca cc) 25)) w.heap.size 25 (p.cells ca cc)):=Lib.hid (Blk.new _ _ _)
 obtain ⟨hl,hhl⟩:∃ hl,h.length=hl:=⟨_,rfl⟩
 have HL:=Lib.hid hhl
 rw [hhl] at hlen ⊢
 by_cases hg:Good p
 case neg=>
  have HE:Hid (¬ PathOk p h want):=Lib.hid (fun k=>hg k.1)
  rw [chk_neg hg] at HC
  unfold Par.cells at HC HW HBk ⊢
  clear hin hrd hh hg hhl
  go_enter Tryz.func64,Tryz.ntmps64
  go_wp2_with fail
  (with_reducible refine Calls.mono HC.out ?_)
  rintro e w1 ⟨rfl,hb⟩
  have HB:=Lib.hid hb
  clear hb
  go_wp2
  go_ret2
  exact ⟨.inl ⟨HE.out,rfl⟩,below_step HW.out HB.out⟩
 rw [chk_pos hg] at HC
 have hn4:4≤p.n:=by rcases hg.1 with h | h | h | h<;>omega
 have hn32:p.n≤32:=by rcases hg.1 with h | h | h | h<;>omega
 have HA:=Lib.hid (fun k w=>gauto_walk p ca cc k w hn4 hn32)
 have HG:=Lib.hid hg
 have HIN:=Lib.hid hin
 have HR:=Lib.hid hrd
 have HH:=Lib.hid hh
 obtain ⟨n,hn⟩:∃ n,p.n=n:=⟨_,rfl⟩
 have HN:=Lib.hid hn
 have HCH:=Lib.hid hin.len
 unfold Par.cells at HC HW HBk HA ⊢
 rw [hn] at HC HW HBk HA hn4 hn32 ⊢
 clear hin hrd hh hg hhl hn
 by_cases ha:IsAuto n want
 case neg=>
  have HE:Hid (¬ PathOk p h want):=Lib.hid (fun k=>ha (HN.out▸k.2.1))
  have HA1:=Lib.hid (fun w=>HA.out want w hw1 hw2)
  rw [tr_neg ha] at HA1
  clear ha HA
  go_enter Tryz.func64,Tryz.ntmps64
  go_wp2_with fail
  (with_reducible refine Calls.mono HC.out ?_)
  rintro e w1 ⟨rfl,hb⟩
  have HB:=Lib.hid hb
  have hbk:Blk w1 w.heap.size 25 _:=HBk.out.below hb
  obtain ⟨c0,c1,c2,c3,c4,c5,c6⟩:=par_cells hbk
  clear hb hbk HBk
  go_wp2_with fail
  (with_reducible refine Calls.mono (HA1.out _) ?_)
  rintro e w2 ⟨rfl,hb⟩
  have HB2:=Lib.hid (below_step (below_step HW.out HB.out) hb)
  clear hb
  go_wp2
  go_ret2
  exact ⟨.inl ⟨HE.out,rfl⟩,HB2.out⟩
 have HA1:=Lib.hid (fun w=>HA.out want w hw1 hw2)
 rw [tr_pos ha] at HA1
 have HAW:Hid (IsAuto n want):=Lib.hid ha
 clear ha
 by_cases hn2:(hl:Int)≤2*n
 case neg=>
  have HE:Hid (¬ PathOk p h want):=Lib.hid (fun k=>hn2 (HN.out▸HL.out▸k.2.2.1))
  have g2:decide (2*n<(hl:Int))=true:=decide_eq_true (by omega)
  clear HA
  go_enter Tryz.func64,Tryz.ntmps64
  go_wp2_with fail
  (with_reducible refine Calls.mono HC.out ?_)
  rintro e w1 ⟨rfl,hb⟩
  have HB:=Lib.hid hb
  have hbk:Blk w1 w.heap.size 25 _:=HBk.out.below hb
  obtain ⟨c0,c1,c2,c3,c4,c5,c6⟩:=par_cells hbk
  clear hbk
  go_wp2_with fail
  (with_reducible refine Calls.mono (HA1.out _) ?_)
  rintro e w2 ⟨rfl,hb2⟩
  have HB2:=Lib.hid (below_step (below_step HW.out HB.out) hb2)
  have hbk:Blk w2 w.heap.size 25 _:=(HBk.out.below hb).below hb2
  obtain ⟨c0,c1,c2,c3,c4,c5,c6⟩:=par_cells hbk
  clear hb hb2 hbk HBk
  go_wp2
  go_ret2
  exact ⟨.inl ⟨HE.out,rfl⟩,HB2.out⟩
 have g2:decide (2*n<(hl:Int))=false:=decide_eq_false (by omega)
 go_enter Tryz.func64,Tryz.ntmps64
 go_wp2_with fail
 (with_reducible refine Calls.mono HC.out ?_)
 rintro e w1 ⟨rfl,hb⟩
 have HB:=Lib.hid hb
 have hbk:Blk w1 w.heap.size 25 _:=HBk.out.below hb
 obtain ⟨c0,c1,c2,c3,c4,c5,c6⟩:=par_cells hbk
 clear hbk
 go_wp2_with fail
 (with_reducible refine Calls.mono (HA1.out _) ?_)
 rintro e w2 ⟨rfl,hb2⟩
 have HB2:=Lib.hid (below_step (below_step HW.out HB.out) hb2)
 have hbk:Blk w2 w.heap.size 25 _:=(HBk.out.below hb).below hb2
 have HK:=Lib.hid hbk
 obtain ⟨c0,c1,c2,c3,c4,c5,c6⟩:=par_cells hbk
 clear hb hb2 hbk HBk HC HW HB HA1
 go_wp2
 go_loopg [36] hl (fun k vi wr=>∃ i:Nat,vi = .int .i64 i∧i≤hl∧hl - i≤k∧Hid (Below w2.heap.size w2 wr)∧Hid (∀ j,j<i→IsAuto n (h.getD j 0)))
 case atStart=>exact ⟨0,rfl,by omega,by omega,Lib.hid (Below.refl _ _),Lib.hid (fun j hj=>absurd hj (Nat.not_lt_zero j))⟩
 case round=>
  obtain ⟨i,rfl,hi,hk,HBr,HP⟩:=hrel
  by_cases hlt:i<hl
  ·obtain ⟨bh,oh,rfl,hcc⟩:=((HR.out.below HB2.out).below HBr.out) i (by rw [HL.out];exact hlt)
   have ch:=hcc i (by rw [HL.out];exact hlt)
   have hb1:=(HH.out i (by rw [HL.out];exact hlt)).1
   have hb2:=(HH.out i (by rw [HL.out];exact hlt)).2
   obtain ⟨x,hx⟩:∃ x,h.getD i 0=x:=⟨_,rfl⟩
   rw [hx] at ch hb1 hb2
   have HX:=Lib.hid hx
   have HAx:=Lib.hid (fun w=>HA.out x w hb1 hb2)
   obtain ⟨c0,c1,c2,c3,c4,c5,c6⟩:=par_cells (HK.out.below HBr.out)
   clear hcc hx
   by_cases hax:IsAuto n x
   ·rw [tr_pos hax] at HAx
    have HP':Hid (∀ j,j<i+1→IsAuto n (h.getD j 0)):=Lib.hid (fun j hj=>by
     rcases Nat.lt_or_eq_of_le (Nat.le_of_lt_succ hj) with hh | rfl
     ·exact HP.out j hh
     ·rw [HX.out];exact hax)
    clear hax
    go_wp2_with fail
    (with_reducible refine Calls.mono (HAx.out _) ?_)
    rintro e w3 ⟨rfl,hb⟩
    have HB3:=Lib.hid (below_step HBr.out hb)
    clear hb
    go_wp2
    go_roundg (hl - (i+1))
    case measure=>omega
    case rel=>exact ⟨i+1,by go_num,by omega,Nat.le_refl _,HB3,HP'⟩
   ·rw [tr_neg hax] at HAx
    have HE:Hid (¬ PathOk p h want):=Lib.hid (fun k=>hax (by have:=k.2.2.2 i (by rw [HL.out];exact hlt);rw [HX.out,HN.out] at this;exact this))
    go_wp2_with fail
    (with_reducible refine Calls.mono (HAx.out _) ?_)
    rintro e w3 ⟨rfl,hb⟩
    have HB3:=Lib.hid (below_step HBr.out hb)
    clear hb
    go_wp2
    go_ret2
    exact ⟨.inl ⟨HE.out,rfl⟩,below_step HB2.out HB3.out⟩
  ·have ei:hl=i:=by omega
   subst ei
   have HOK:Hid (PathOk p h want):=Lib.hid ⟨HG.out,HN.out▸HAW.out,by rw [HL.out,HN.out];exact hn2,fun j hj=>by rw [HN.out];exact HP.out j (by rw [← HL.out];exact hj)⟩
   clear HA HAW
   obtain ⟨wo,rfl⟩:∃ wo,wo=wr:=⟨_,rfl⟩
   have HKo:=Lib.hid (HK.out.below HBr.out)
   have hwb:w.heap.size<wo.heap.size:=HKo.out.lt
   obtain ⟨u,hru,hBu,hus,hst⟩:=start_run wo
   obtain ⟨w4,hw4,hQ0,hO0,hsz0,hst⟩:=hst w.heap.size hwb
   have HPUT:=Lib.hid (qput_walk (u.heap.size+1) wo.heap.size (.slice none 0 0) [] [] 1 w4 hQ0 hO0 hsz0 (by simp) (by simp))
   rw [hw4] at HPUT
   have HST:=Lib.hid hst
   have hmm:=@run_makeMap Tryz.prog
   rw [hw4] at HST
   clear hst hQ0 hO0 hsz0 hw4 hBu
   go_wp2_with fail
   (with_reducible refine Calls.mono HPUT.out ?_)
   rintro e w3 ⟨rfl,hp⟩
   obtain ⟨hM,hBo,hbm⟩:=HST.out w3 hp
   have HB3:=Lib.hid (below_step HB2.out (below_step HBr.out hBo))
   have HBo:=Lib.hid hBo
   have HM:Hid (StepPost w3 w3 wo.heap.size wo.heap.size (u.heap.size+1) 0 [(1,[])] [w.heap.size,u.heap.size]):=Lib.hid hM.step0
   have HKb:Hid (Blk w3 w.heap.size 25 #[.int .i64 n,.int .u32 p.prime,.int .i64 p.power,.slice ca p.chain.length cc,.int .u32 p.special,.int .i64 p.weight,.int .u32 p.err]):=Lib.hid (HKo.out.below hBo)
   have HMb:=Lib.hid hbm
   have HRh:Hid (RdI wo ao h):=Lib.hid ((HR.out.below HB2.out).below HBr.out)
   have hs3:wo.heap.size≤w3.heap.size:=hBo.size
   clear hp hM hBo hbm HPUT HST hru
   go_wp2_with fail
   go_loopg [12] 65 (fun k v12 wr=>∃ (a:Nat) (S:List (Int × List Int)),a≤S.length∧S.length≤64∧65 - a≤k ∧
    Hid (StepPost w3 wr wo.heap.size wo.heap.size (u.heap.size+1) a S [w.heap.size,u.heap.size]∧BInv (2*n) S∧BLen S∧bfs (2*n) h want (65 - a) a S=pathR p h want))
   case atStart=>
    refine ⟨0,[(1,[])],by simp,by simp,by omega,Lib.hid ⟨HM.out,BInv.start (by omega),BLen.start,?_⟩⟩
    unfold pathR
    rw [HN.out]
   case round=>
    obtain ⟨a,S,has,hsz,hk,HS⟩:=hrel
    have HBw:Hid (Below w.heap.size w wr):=Lib.hid (HB3.out.trans ((HS.out.1.belowN (B:=wo.heap.size) hs3 (Nat.le_refl _)).mono (by omega)))
    by_cases hal:a<S.length
    case neg=>
     have HR0:Hid (pathR p h want=none):=Lib.hid (by rw [← HS.out.2.2.2,show 65 - a=(64 - a)+1 by omega];exact bfs_none (by omega))
     obtain ⟨qv,bs,hQ,hO⟩:=HS.out.1.1.out (by omega)
     have HT:=Lib.hid (qtake_none _ _ qv bs wr hQ hO)
     clear hQ hO HS HM
     go_wp2_with fail
     (with_reducible refine Calls.mono HT.out ?_)
     rintro e w5 ⟨rfl,rfl⟩
     go_wp2
     go_ret2
     exact ⟨.inr (.inl ⟨HOK.out,HR0.out,rfl⟩),HBw.out.alloc HBw.out.size _⟩
    obtain ⟨⟨x,px⟩,hax⟩:∃ y,S[a]? = some y:=⟨_,List.getElem?_eq_getElem hal⟩
    obtain ⟨qv,bs,hQ,hO,hqb,htk⟩:=HS.out.1.1.take hax
    have HT:=Lib.hid (qtake_some _ _ qv x _ bs wr hQ hO hqb (by rw [List.length_map,List.length_drop];omega))
    have HTK:=Lib.hid htk
    have HAX:=Lib.hid hax
    have hx0:=HS.out.2.1.2 (x,px) (List.mem_of_getElem? hax)
    have hpl:=HS.out.2.2.1 a _ hax
    simp only at hx0 hpl
    clear hQ hO hqb htk
    by_cases hxw:x=want
    ·have HR0:Hid (pathR p h want=some px):=Lib.hid (by rw [← HS.out.2.2.2,show 65 - a=(64 - a)+1 by omega];exact bfs_hit (hxw▸hax))
     have gx:(x == want)=true:=by simp [hxw]
     clear hax hxw
     go_wp2_with fail
     (with_reducible refine Calls.mono HT.out ?_)
     rintro e w5 ⟨rfl,hp⟩
     obtain ⟨hM5,hT5,hX5,hlq⟩:=HTK.out w5 hp
     have hM6:=hM5.below (w':=w5.alloc (.cells #[.int .i64 x] 3)) ((Below.refl _ w5).alloc (Nat.le_refl _) _)
     obtain ⟨g,off,c,pbs,hr1,hr2,hOx⟩:=hM6.known HAX.out (by omega) (by omega)
     have HBf:Hid (Below w.heap.size w w5):=Lib.hid (HBw.out.trans (hT5.belowN (B:=w.heap.size) HBw.out.size (by simp;omega)))
     have hbm5:w5.cell? ⟨u.heap.size,0,none⟩=some (.map (some wo.heap.size)):=((HS.out.1.blk HMb.out (by simp)).turn hT5 (hX5 _ (by simp))).cell 0
     have hul:u.heap.size<w5.heap.size:=World.block_lt_of_cell? w5 _ hbm5
     have HRx:Hid (RdI (w5.alloc (.cells #[.int .i64 x] 3)) (some ⟨g,off,none⟩) px):=Lib.hid (by
      obtain ⟨ao',cap',e',hrd'⟩:=hOx.rd
      cases e'
      exact hrd')
     have HCP:Hid (px.length≤c∧c≤maxLen∧∀ b o s,some (⟨g,off,none⟩:Addr)=some ⟨b,o,s⟩→w.heap.size≤b):=Lib.hid ⟨hOx.cap,hOx.new.1,fun b o s q=>Nat.le_trans (by omega) (hOx.new.2 b o s q)⟩
     obtain ⟨pl,hpl'⟩:∃ pl,px.length=pl:=⟨_,rfl⟩
     have HPL:=Lib.hid hpl'
     rw [hpl'] at hr2 hpl
     clear hp hM5 hT5 hX5 hM6 hOx hr1 HS HT HTK hpl'
     go_wp2
     go_ret2
     exact ⟨.inr (.inr ⟨px,_,_,HOK.out,HR0.out,by rw [HPL.out];omega,by rw [HPL.out];rfl,HRx.out,HCP.out⟩),HBf.out.alloc HBf.out.size _⟩
    have gx:(x == want)=false:=by simp [hxw]
    have HR1:Hid (bfs (2*n) h want (64 - a) (a+1) (bround (2*n) h x px S hl)=pathR p h want):=Lib.hid (by
     rw [← HS.out.2.2.2,show 65 - a=(64 - a)+1 by omega,bfs_on hax hxw,HL.out])
    clear hax hxw
    go_wp2_with fail
    (with_reducible refine Calls.mono HT.out ?_)
    rintro e w5 ⟨rfl,hp⟩
    obtain ⟨hM5,hT5,hX5,hlq⟩:=HTK.out w5 hp
    have hA5:Below w5.heap.size w5 (w5.alloc (.cells #[.int .i64 x] 3)):=(Below.refl _ w5).alloc (Nat.le_refl _) _
    obtain ⟨w6,hw6⟩:∃ w6,w5.alloc (.cells #[.int .i64 x] 3)=w6:=⟨_,rfl⟩
    have hsz6:w6.heap.size=w5.heap.size+1:=by rw [← hw6];simp
    have hM6:PMem w6 wo.heap.size wo.heap.size (u.heap.size+1) (a+1) S (w5.heap.size::[w.heap.size,u.heap.size]):=by
     rw [hw6] at hA5
     exact hM5.keep w5.heap.size (Nat.le_refl _) (by omega) hA5
    have HP6:Hid (StepPost w3 w6 wo.heap.size wo.heap.size (u.heap.size+1) (a+1) S [w.heap.size,u.heap.size]):=Lib.hid (HS.out.1.trans ⟨hM6.sub (fun y hy=>List.mem_cons_of_mem _ hy),[u.heap.size+1],by rw [← hw6];exact hT5.alloc _,hX5,by simpa using hlq⟩)
    have HM6:Hid (StepPost w6 w6 wo.heap.size wo.heap.size (u.heap.size+1) (a+1) S [w5.heap.size,w.heap.size,u.heap.size]):=Lib.hid hM6.step0
    have HA6:Hid (Blk w6 w5.heap.size 3 #[.int .i64 x]):=Lib.hid (by rw [← hw6];exact Blk.new _ _ _)
    have HI6:Hid (BInv (2*n) S∧BLen S):=Lib.hid ⟨HS.out.2.1,HS.out.2.2.1⟩
    have HB6:Hid (Below wo.heap.size w3 w6):=Lib.hid (HP6.out.belowN hs3 (Nat.le_refl _))
    have c6:w6.cell? ⟨w5.heap.size,0,none⟩=some (.int .i64 x):=HA6.out.cell 0
    have hws:w3.heap.size≤w5.heap.size:=Nat.le_trans (HS.out.1.belowN (B:=wo.heap.size) hs3 (Nat.le_refl _)).size hT5.size
    clear hp hM5 hT5 hX5 hM6 HS HT HTK hA5
    go_wp2_with fail
    clear hw6 c6
    go_loopg [66] hl (fun k vi wr=>∃ (i:Nat),vi = .int .i64 i∧i≤hl∧hl - i≤k∧(bround (2*n) h x px S i).length≤64 ∧
     Hid (StepPost w6 wr wo.heap.size wo.heap.size (u.heap.size+1) (a+1) (bround (2*n) h x px S i) [w5.heap.size,w.heap.size,u.heap.size]∧BInv (2*n) (bround (2*n) h x px S i)∧BLen (bround (2*n) h x px S i)))
    case atStart=>exact ⟨0,rfl,by omega,by omega,hsz,Lib.hid ⟨HM6.out,HI6.out⟩⟩
    case round=>
     obtain ⟨i,rfl,hi2,hk2,hsz2,HS⟩:=hrel
     have hgx:=bround_get (m:=2*n) (h:=h) (x:=x) (px:=px) HAX.out i
     by_cases hil:i<hl
     case neg=>
      have ei:hl=i:=by omega
      subst ei
      have HF:Hid (StepPost w3 wr wo.heap.size wo.heap.size (u.heap.size+1) (a+1) (bround (2*n) h x px S hl) [w.heap.size,u.heap.size]):=Lib.hid (HP6.out.trans (HS.out.1.sub (fun y hy=>List.mem_cons_of_mem _ hy)))
      have hal2:=(List.getElem?_eq_some_iff.1 hgx).1
      clear hgx
      go_wp2
      go_roundg (65 - (a+1))
      case measure=>omega
      case rel=>exact ⟨a+1,_,hal2,hsz2,Nat.le_refl _,Lib.hid ⟨HF.out,HS.out.2.1,HS.out.2.2,by rw [show 65 - (a+1)=64 - a by omega];exact HR1.out⟩⟩
     obtain ⟨S',hS'⟩:∃ S',bround (2*n) h x px S i=S':=⟨_,rfl⟩
     have HSn:Hid (bround (2*n) h x px S (i+1)=bstep (2*n) x px S' i (h.getD i 0)):=Lib.hid (by rw [← hS'];rfl)
     rw [hS'] at HS hgx hsz2
     clear hS'
     have HBB:Hid (Below wo.heap.size wo wr):=Lib.hid (HBo.out.trans (HB6.out.trans (HS.out.1.belowN (B:=wo.heap.size) (Nat.le_trans hs3 HB6.out.size) (Nat.le_refl _))))
     obtain ⟨bh,oh,rfl,hcc⟩:=(HRh.out.below HBB.out) i (by rw [HL.out];exact hil)
     have ch:=hcc i (by rw [HL.out];exact hil)
     have hauto:=HOK.out.2.2.2 i (by rw [HL.out];exact hil)
     obtain ⟨kx,hkx⟩:∃ kx,h.getD i 0=kx:=⟨_,rfl⟩
     rw [hkx] at ch hauto HSn
     rw [HN.out] at hauto
     have hx1:=hx0
     have hbA:=HS.out.1.blk HA6.out (by simp)
     have hbP:=HS.out.1.blk (HP6.out.blk HKb.out (by simp)) (by simp)
     have hbM:=HS.out.1.blk (HP6.out.blk HMb.out (by simp)) (by simp)
     have hds:=(List.getElem?_eq_some_iff.1 hgx).1
     have HG1:=Lib.hid (gstep_walk w5.heap.size w.heap.size u.heap.size wo.heap.size wo.heap.size (u.heap.size+1) (a+1) a i n x kx px S' [w5.heap.size,w.heap.size,u.heap.size] wr HS.out.1.1 hds (by omega) HBB.out.size hgx (by omega) hn4 hn32 hx0.1 hx0.2 hauto.1 hauto.2.1 (by simp) (by simp) (hbA.cell 0) (hbP.cell 0) (hbM.cell 0))
     have HBI:Hid (BInv (2*n) (bstep (2*n) x px S' i kx)):=Lib.hid (HS.out.2.1.step (by omega))
     have HBL:Hid (BLen (bstep (2*n) x px S' i kx)):=Lib.hid (HS.out.2.2.step hgx)
     have hl64:=HBI.out.length (by omega) (by omega)
     have HS1:=Lib.hid HS.out.1
     have en:=enters_gp1
     clear hcc hkx hgx hauto hbA hbP hbM HS
     go_wp2_with fail
     (with_reducible refine Calls.mono HG1.out ?_)
     rintro e w7 ⟨rfl,hp⟩
     have HS7:Hid (StepPost w6 w7 wo.heap.size wo.heap.size (u.heap.size+1) (a+1) (bstep (2*n) x px S' i kx) [w5.heap.size,w.heap.size,u.heap.size]):=Lib.hid (HS1.out.trans hp)
     clear hp
     go_wp2
     go_roundg (hl - (i+1))
     case measure=>omega
     case rel=>exact ⟨i+1,by go_num,by omega,Nat.le_refl _,by rw [HSn.out];exact hl64,Lib.hid (by rw [HSn.out];exact ⟨HS7.out,HBI.out,HBL.out⟩)⟩


theorem PathEnd.hit {B:Nat} {p:Par} {h:List Int} {want:Int} {e:Ending} {w':World} {l:List Int} (k:PathEnd B p h want e w') (ho:PathOk p h want) (hr:pathR p h want=some l):∃ ao c,e = .returned (.tuple #[.slice ao l.length c,.int .i64 0])∧RdI w' ao l:=by
 rcases k with ⟨h1,_⟩ | ⟨_,h1,_⟩ | ⟨l',ao,c,_,h1,_,h2,h3⟩
 ·exact absurd ho h1
 ·rw [hr] at h1;cases h1
 ·rw [hr] at h1;cases h1;exact ⟨ao,c,h2,h3.1⟩
theorem PathEnd.miss {B:Nat} {p:Par} {h:List Int} {want:Int} {e:Ending} {w':World} (k:PathEnd B p h want e w') (ho:PathOk p h want) (hr:pathR p h want=none):e = .returned (.tuple #[.slice none 0 0,.int .i64 4]):=by
 rcases k with ⟨h1,_⟩ | ⟨_,_,h2⟩ | ⟨l',ao,c,_,h1,_,h2,h3⟩
 ·exact absurd ho h1
 ·exact h2
 ·rw [hr] at h1;cases h1
theorem rdI_blk {w:World} {b:Nat} {t:TypeId} {l:List Int} (h:Blk w b t (l.map (Value.int .i64)).toArray):RdI w (some ⟨b,0,none⟩) l:=fun k hk=>⟨b,0,rfl,fun j hj=>by
 rw [h.cell (0+j),Nat.zero_add]
 simp [hj]⟩
theorem isAuto_of {n k:Int} (h:(decide (1≤k) && decide (k<2*n) && decide (k % 2=1))=true):IsAuto n k:=by
 simp at h
 exact ⟨h.1.1,h.1.2,h.2⟩

abbrev cells8 (ca:Option Addr) (cc:Nat):Array Value:=#[.int .i64 8,.int .u32 17,.int .i64 1,.slice ca 1 cc,.int .u32 2147483249,.int .i64 4,.int .u32 2]
theorem default8 (w:World):Calls Tryz.prog 63 #[.int .i64 8,.int .u32 17,.int .i64 1,.int .i64 1] w fun e w'=>∃ ca cc,e = .returned (.tuple #[.agg (cells8 ca cc),.int .i64 0])∧ParIn w' par8 ca cc∧Below w.heap.size w w':=
 r12default_walk 8 17 1 17 2147483249 1 [2147477809] w (by omega) (by omega) (by omega) (by omega) (by omega) (by omega) (plainV_pos plain817) (by omega) (by omega) (by omega) (by omega) chain8 rfl
theorem path8a (ca:Option Addr) (cc b c:Nat) (w:World) (hin:ParIn w par8 ca cc) (hb:Blk w b 3 #[.int .i64 3,.int .i64 15]) :
  Calls Tryz.prog 64 #[.agg (cells8 ca cc),.slice (some ⟨b,0,none⟩) 2 c,.int .i64 5] w fun e w'=>(∃ ao c,e = .returned (.tuple #[.slice ao 4 c,.int .i64 0])∧RdI w' ao [0,0,0,1])∧Below w.heap.size w w':=
 (gpath_walk par8 ca cc (some ⟨b,0,none⟩) c [3,15] 5 w hin (rdI_blk hb) (by simp) (fun i hi=>by
  have:i=0∨i=1:=by simp at hi;omega
  rcases this with rfl | rfl<;>simp) (by omega) (by omega)).mono (fun e w' h=>⟨h.1.hit (l:=[0,0,0,1]) ⟨good8,isAuto_of (by decide),by decide,fun i hi=>by
   have:i=0∨i=1:=by simp at hi;omega
   rcases this with rfl | rfl<;>exact isAuto_of (by decide)⟩ (by decide +kernel),h.2⟩)
theorem path8b (ca:Option Addr) (cc b c:Nat) (w:World) (hin:ParIn w par8 ca cc) (hb:Blk w b 3 #[.int .i64 9]) :
  Calls Tryz.prog 64 #[.agg (cells8 ca cc),.slice (some ⟨b,0,none⟩) 1 c,.int .i64 3] w fun e w'=>e = .returned (.tuple #[.slice none 0 0,.int .i64 4])∧Below w.heap.size w w':=
 (gpath_walk par8 ca cc (some ⟨b,0,none⟩) c [9] 3 w hin (rdI_blk hb) (by simp) (fun i hi=>by
  have:i=0:=by simp at hi;omega
  subst this;simp) (by omega) (by omega)).mono (fun e w' h=>⟨h.1.miss ⟨good8,isAuto_of (by decide),by decide,fun i hi=>by
   have:i=0:=by simp at hi;omega
   subst this;exact isAuto_of (by decide)⟩ (by decide +kernel),h.2⟩)
theorem path8c (ca:Option Addr) (cc:Nat) (w:World) (hin:ParIn w par8 ca cc) :
  Calls Tryz.prog 64 #[.agg (cells8 ca cc),.slice none 0 0,.int .i64 1] w fun e w'=>(∃ ao c,e = .returned (.tuple #[.slice ao 0 c,.int .i64 0]))∧Below w.heap.size w w':=
 (gpath_walk par8 ca cc none 0 [] 1 w hin (RdI.nil _ _) (by simp) (fun i hi=>by simp at hi) (by omega) (by omega)).mono (fun e w' h=>⟨by
  obtain ⟨ao,c,h1,_⟩:=h.1.hit (l:=[]) ⟨good8,isAuto_of (by decide),by decide,fun i hi=>by simp at hi⟩ (by decide +kernel)
  exact ⟨ao,c,h1⟩,h.2⟩)

set_option maxHeartbeats 1600000 in
set_option maxRecDepth 100000 in
theorem awake19_walk (w:World):Calls Tryz.prog 21 #[] w fun e w'=>e = .returned (.bool true)∧Below w.heap.size w w':=by
 have HD:=Lib.hid default8
 go_enter Tryz.func21,Tryz.ntmps21
 go_wp2_with fail
 (with_reducible refine Calls.mono (HD.out _) ?_)
 rintro e w1 ⟨ca,cc,rfl,hin,hb⟩
 obtain ⟨W1,hW1⟩:∃ W1,w1.alloc (.cells (cells8 ca cc) 25)=W1:=⟨_,rfl⟩
 have hA:Below w1.heap.size w1 W1:=by rw [← hW1];exact (Below.refl _ w1).alloc (Nat.le_refl _) _
 have HB1:=Lib.hid (below_step hb hA)
 have HI1:=Lib.hid (hin.below hA)
 have hK1:Blk W1 w1.heap.size 25 (cells8 ca cc):=by rw [← hW1];exact Blk.new _ _ _
 have HK1:=Lib.hid hK1
 obtain ⟨c0,c1,c2,c3,c4,c5,c6⟩:=par_cells hK1
 have hA2:Below W1.heap.size W1 (W1.alloc (.cells #[.int .i64 3,.int .i64 15] 3)):=(Below.refl _ W1).alloc (Nat.le_refl _) _
 have HP1:=Lib.hid (path8a ca cc W1.heap.size 2 (W1.alloc (.cells #[.int .i64 3,.int .i64 15] 3)) (HI1.out.below hA2) (Blk.new W1 _ _))
 clear hb hin hA hA2 HD hK1
 go_wp2_with fail
 (with_reducible refine Calls.mono HP1.out ?_)
 rintro e w2 ⟨⟨ao,co,rfl,hrd⟩,hb⟩
 have hb2:=below_step ((Below.refl _ W1).alloc (Nat.le_refl _) _) hb
 have HB2:=Lib.hid (below_step HB1.out hb2)
 have HI2:=Lib.hid (HI1.out.below hb2)
 have HK2:=Lib.hid (HK1.out.below hb2)
 have HR:=Lib.hid hrd
 obtain ⟨d0,d1,d2,d3,d4,d5,d6⟩:=par_cells HK2.out
 have hA2:Below w2.heap.size w2 (w2.alloc (.cells #[.int .i64 9] 3)):=(Below.refl _ w2).alloc (Nat.le_refl _) _
 have HP2:=Lib.hid (path8b ca cc w2.heap.size 1 (w2.alloc (.cells #[.int .i64 9] 3)) (HI2.out.below hA2) (Blk.new w2 _ _))
 clear hb hb2 hrd hA2 HP1 c0 c1 c2 c3 c4 c5 c6 HI1 HK1 hW1
 go_wp2_with fail
 (with_reducible refine Calls.mono HP2.out ?_)
 rintro e w3 ⟨rfl,hb⟩
 have hb2:=below_step ((Below.refl _ w2).alloc (Nat.le_refl _) _) hb
 have HB3:=Lib.hid (below_step HB2.out hb2)
 have HI3:=Lib.hid (HI2.out.below hb2)
 have HK3:=Lib.hid (HK2.out.below hb2)
 have HR3:=Lib.hid (HR.out.below hb2)
 obtain ⟨c0,c1,c2,c3,c4,c5,c6⟩:=par_cells HK3.out
 have HP3:=Lib.hid (path8c ca cc w3 HI3.out)
 clear hb hb2 HP2 d0 d1 d2 d3 d4 d5 d6 HI2 HK2 HR
 go_wp2_with fail
 (with_reducible refine Calls.mono HP3.out ?_)
 rintro e w4 ⟨⟨ao4,co4,rfl⟩,hb⟩
 have HB4:=Lib.hid (below_step HB3.out hb)
 have hA2:Below w4.heap.size w4 (w4.alloc (.cells #[.int .i64 0,.int .i64 0,.int .i64 0,.int .i64 1] 3)):=(Below.refl _ w4).alloc (Nat.le_refl _) _
 have HB5:=Lib.hid (below_step HB4.out hA2)
 have HS:Hid (Calls Tryz.prog 65 #[.slice ao 4 co,.slice (some ⟨w4.heap.size,0,none⟩) 4 4] (w4.alloc (.cells #[.int .i64 0,.int .i64 0,.int .i64 0,.int .i64 1] 3)) fun e w'=>e = .returned (.bool true)∧Below (w4.alloc (.cells #[.int .i64 0,.int .i64 0,.int .i64 0,.int .i64 1] 3)).heap.size (w4.alloc (.cells #[.int .i64 0,.int .i64 0,.int .i64 0,.int .i64 1] 3)) w'):=
  Lib.hid (sameInts_walk ao (some ⟨w4.heap.size,0,none⟩) co 4 [0,0,0,1] _ (by simp) ((HR3.out.below hb).below hA2) (rdI_blk (Blk.new w4 _ _)))
 clear hb hA2 HP3 HI3 HK3 HR3
 go_wp2_with fail
 (with_reducible refine Calls.mono HS.out ?_)
 rintro e w5 ⟨rfl,hb⟩
 have HB6:=Lib.hid (below_step HB5.out hb)
 clear hb HS
 go_wp2
 go_ret
 exact ⟨rfl,HB6.out⟩
end Go.Proofs.YtmjildbdkecolaaGreat
