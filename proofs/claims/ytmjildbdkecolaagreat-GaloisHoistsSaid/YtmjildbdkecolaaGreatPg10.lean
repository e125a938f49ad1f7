/- Slices of int of one's own; the queue.
Slices of slices of one's own.
The memory of the reference's search.
Breadth-first search, plain; slices of slices. -/
import Derived.Test.YtmjildbdkecolaaGreatPg09
import Derived.ArgAppend
import Derived.Maps.AppendAt
import Derived.Lib.AppendZeros
set_option linter.unusedSimpArgs false
set_option linter.unusedVariables false
set_option linter.unnecessarySimpa false
set_option linter.unusedSectionVars false
namespace Go.Proofs.YtmjildbdkecolaaGreat
open Go.RowKit Go.Shelf

def OwI (w:World) (lo:Nat) (v:Value) (l:List Int) (bs:List Nat):Prop:=
 (v = .slice none 0 0∧l=[]∧bs=[]) ∨
 ∃ g off cap cur,v = .slice (some ⟨g,off,none⟩) l.length cap∧bs=[g]∧lo≤g∧w.heap[g]? = some (.cells cur 3 (0,0))∧l.length≤cap∧cap≤maxLen∧off+cap≤cur.size ∧
  ∀ j,j<l.length→cur[off+j]? = some (.int .i64 (l.getD j 0))
section
variable {w w':World} {lo:Nat} {v:Value} {l:List Int} {bs S:List Nat}
theorem OwI.nil (w:World) (lo:Nat):OwI w lo (.slice none 0 0) [] []:=.inl ⟨rfl,rfl,rfl⟩
theorem OwI.turn (h:OwI w lo v l bs) (hT:Turn w w' S) (hb:∀ g,g∈bs→g ∉ S):OwI w' lo v l bs:=by
 rcases h with h | ⟨g,off,cap,cur,h1,h2,h3,h4,h5⟩
 ·exact .inl h
 ·exact .inr ⟨g,off,cap,cur,h1,h2,h3,hT.at h4 (hb g (by rw [h2];simp)),h5⟩
theorem OwI.alloc (h:OwI w lo v l bs) (o:Obj):OwI (w.alloc o) lo v l bs:=h.turn (S:=[]) ((Turn.refl w []).alloc o) (fun _ _=>by simp)
theorem OwI.lt (h:OwI w lo v l bs) {g:Nat} (hg:g∈bs):g<w.heap.size∧lo≤g:=by
 rcases h with ⟨_,_,h⟩ | ⟨g',off,cap,cur,h1,h2,h3,h4,h5⟩
 ·rw [h] at hg;simp at hg
 ·rw [h2] at hg;simp at hg;subst hg;exact ⟨block_lt h4,h3⟩
theorem OwI.rd (h:OwI w lo v l bs):∃ ao cap,v = .slice ao l.length cap∧RdI w ao l:=by
 rcases h with ⟨rfl,rfl,_⟩ | ⟨g,off,cap,cur,rfl,h2,h3,h4,h5,h6,h7,h8⟩
 ·exact ⟨none,0,rfl,RdI.nil _ _⟩
 ·exact ⟨_,cap,rfl,fun _ _=>⟨g,off,rfl,fun j hj=>by rw [cell_of_row w g (off+j) cur _ _ h4];exact h8 j hj⟩⟩
theorem OwI.cap {ao:Option Addr} {n c:Nat} (h:OwI w lo (.slice ao n c) l bs):l.length≤c:=by
 rcases h with ⟨_,rfl,_⟩ | ⟨g,off,cap,cur,e,h2,h3,h4,h5,h6,h7,h8⟩
 ·simp
 ·simp only [Value.slice.injEq] at e
  omega
theorem OwI.append (h:OwI w lo v l bs) (hlo:lo≤w.heap.size) (hlen:l.length≤1000000) (ty:TypeId) (ad:Addr) (c:Nat) (x:Int) (hx:w.cell? ad=some (.int .i64 x)) :
  ∃ v' w' bs',(Builtin.append_ #[106,106] ty #[v,.slice (some ad) 1 c]).run Tryz.prog w = .ok v' w'∧OwI w' lo v' (l++[x]) bs'∧Turn w w' bs∧(bs'=bs∨∀ g,g∈bs'→w.heap.size≤g)∧(∃ ao cap,v' = .slice ao (l.length+1) cap):=by
 obtain ⟨i0,hi,hz0,hz1,hz2⟩:=info_parts ginfo_i64
 have hnews:∀ j u,([.int .i64 x]:List Value)[j]? = some u→w.cell? (ad.add j)=some u:=by
  intro j u hj
  match j,hj with
  | 0,hj=>
   simp at hj
   subst hj
   have:ad.add 0=ad:=by unfold Addr.add;split<;>simp_all
   rw [this]
   exact hx
 have own:∀ {v' w'},w'.ownsRow w.heap.size 3 1 v' (l.length+1) (l.map (Value.int .i64)++[.int .i64 x])→∃ g,OwI w' lo v' (l++[x]) [g]∧w.heap.size≤g∧∃ ao cap,v' = .slice ao (l.length+1) cap:=by
  intro v' w' ho
  rcases ho.2 with ⟨_,h0⟩ | ⟨g,cap,cur,rfl,hg,hh,hnc,hml,hcs,htk⟩
  ·omega
  ·refine ⟨g,.inr ⟨g,0,cap,cur,by simp,rfl,by omega,hh,by simp;omega,hml,by omega,?_⟩,hg,_,_,rfl⟩
   intro j hj
   rw [Nat.zero_add,← Array.getElem?_toList]
   have e:=congrArg (·[j]?) htk
   rw [Nat.mul_one,List.getElem?_take,if_pos (by simpa using hj)] at e
   rw [e]
   rcases Nat.lt_or_ge j l.length with hjl | hjl
   ·rw [List.getElem?_append_left (by simpa using hjl)]
    simp [List.getD_eq_getElem?_getD,List.getElem?_append_left hjl,hjl]
   ·have:j=l.length:=by simp at hj;omega
    subst this
    simp [List.getD_eq_getElem?_getD]
 rcases h with ⟨rfl,rfl,rfl⟩ | ⟨g,off,cap,cur,rfl,rfl,h3,h4,h5,h6,h7,h8⟩
 ·obtain ⟨v',w',hr,ho,hg,_⟩:=run_append_own (P:=Tryz.prog) w w.heap.size 106 ty 3 i0 (.int .i64 0) 1 8 Tryz.underlying106 hi hz0 hz1 hz2 rfl (by decide) (.slice none 0 0) 0 [] (World.ownsRow_nil w _ _ _) ad 1 c [.int .i64 x] rfl hnews
   (by simp [Value.oneCell']) (by unfold maxLen;omega) (by omega) (Nat.le_refl _)
  obtain ⟨g,hO,hge,ha⟩:=own ho
  exact ⟨v',w',[g],hr,hO,Turn.of_grown hg (fun k hk=>by simp [Value.ownBlock] at hk),.inr (fun j hj=>by simp at hj;omega),ha⟩
 ·by_cases hroom:l.length+1≤cap
  ·have hcell:∀ j,j<([.int .i64 x]:List Value).length→(w.cell? ⟨g,off+l.length*i0.size+j,none⟩).isSome=true:=by
    intro j hj
    simp at hj
    subst hj
    rw [hz1,cell_of_row w g _ cur _ _ h4,Array.getElem?_eq_getElem (by omega)]
    rfl
   have hfr:∀ j,j<([.int .i64 x]:List Value).length→w.frozen? ⟨g,off+l.length*i0.size+j,none⟩=false:=by
    intro j _
    simp [World.frozen?,h4]
   have hr:=run_append_room_cells (P:=Tryz.prog) w 106 ty 3 i0 Tryz.underlying106 hi g off l.length cap ad 1 c [.int .i64 x] (by rw [hz1];rfl) hnews (by simp [Value.oneCell']) hroom hcell hfr
   refine ⟨_,_,[g],hr,.inr ⟨g,off,cap,cur.setIfInBounds (off+l.length) (.int .i64 x),by simp,rfl,h3,?_,by simp;omega,h6,by simp;omega,?_⟩,?_,.inl rfl,_,_,rfl⟩
   ·rw [hz1,Nat.mul_one]
    show (w.setCell ⟨g,off+l.length,none⟩ (.int .i64 x)).heap[g]? = _
    simp [World.setCell,Array.getElem?_modify,h4]
   ·intro j hj
    rw [Array.getElem?_setIfInBounds]
    rcases Nat.lt_or_ge j l.length with hjl | hjl
    ·rw [if_neg (by omega),h8 j hjl]
     simp [List.getD_eq_getElem?_getD,List.getElem?_append_left hjl]
    ·have:j=l.length:=by simp at hj;omega
     subst this
     rw [if_pos rfl,if_pos (by omega)]
     simp [List.getD_eq_getElem?_getD]
   ·rw [hz1,Nat.mul_one]
    exact (Turn.refl w [g]).setCell (p:=⟨g,off+l.length,none⟩) (.inl (by simp)) _
  ·have holds:∀ j u,(l.map (Value.int .i64))[j]? = some u→w.cell? ((⟨g,off,none⟩:Addr).add j)=some u:=by
    intro j u hj
    simp only [List.getElem?_map,Option.map_eq_some_iff] at hj
    obtain ⟨y,hy,rfl⟩:=hj
    obtain ⟨hjl,hy'⟩:=List.getElem?_eq_some_iff.1 hy
    have:=h8 j hjl
    rw [List.getD_eq_getElem?_getD,hy,Option.getD_some] at this
    rw [add_zero_addr,cell_of_row w g _ cur _ _ h4]
    exact this
   obtain ⟨v',w',hr,ho,hg⟩:=run_append_arg_grows (P:=Tryz.prog) w 106 ty 3 i0 (.int .i64 0) 1 8 Tryz.underlying106 hi hz0 hz1 hz2 rfl (by decide) ⟨g,off,none⟩ l.length cap (l.map (Value.int .i64)) (by simp) holds ad 1 c [.int .i64 x] rfl hnews
    (by omega) (by unfold maxLen;omega) (by omega)
   obtain ⟨g',hO,hge,ha⟩:=own ho
   exact ⟨v',w',[g'],hr,hO,Turn.of_grown hg (fun k hk=>by simp at hk),.inr (fun j hj=>by simp at hj;omega),ha⟩
end

def PutPost (w w':World) (lo q:Nat) (l:List Int) (bs:List Nat):Prop:=
 ∃ v' bs',Blk w' q 168 #[v']∧OwI w' lo v' l bs'∧Turn w w' (q::bs)∧(bs'=bs∨∀ g,g∈bs'→w.heap.size≤g)

set_option maxHeartbeats 1600000 in
theorem qput_walk (q lo:Nat) (v:Value) (l:List Int) (bs:List Nat) (x:Int) (w:World) (hq:Blk w q 168 #[v]) (h:OwI w lo v l bs) (hlo:lo≤w.heap.size) (hlen:l.length≤1000000) (hqb:q ∉ bs) :
  Calls Tryz.prog 131 #[.pointer (some ⟨q,0,none⟩),.int .i64 x] w fun e w'=>e = .returned (.tuple #[])∧PutPost w w' lo q (l++[x]) bs:=by
 have c0:w.cell? ⟨q,0,none⟩=some v:=hq.cell 0
 have hql:=hq.lt
 obtain ⟨v',w1,bs',hr,hO,hT,hN,ao',cap',rfl⟩:=(h.alloc (.cells #[.int .i64 x] 3)).append (by simp;omega) hlen 106 ⟨w.heap.size,0,none⟩ 1 x ((Blk.new w _ _).cell 0)
 have HO:=Lib.hid hO
 have HT:=Lib.hid hT
 have HN:=Lib.hid hN
 have hq1:Blk w1 q 168 #[v]:=(hq.alloc _).turn hT hqb
 have HQ:=Lib.hid hq1
 have c1:w1.cell? ⟨q,0,none⟩=some v:=hq1.cell 0
 have hf1:w1.frozen? ⟨q,0,none⟩=false:=hq1.free 0
 obtain ⟨ao,cap,rfl,_⟩:=h.rd
 have HL:=Lib.hid hlen
 clear hO hT hN hq1 hq h hlen
 go_enter Tryz.func131,Tryz.ntmps131
 go_wp2_with (at_builtin;refine Lib.wpList_append_run _ rfl (.tmp 8) (.tmp 10) 106 106 rfl _ _ rfl rfl _ _ hr ?_)
 go_wp2
 refine bodyPost_end (results_none rfl _ _ _) rfl ?_
 have hTw:Turn w w1 bs:=((Turn.refl w bs).alloc _).trans HT.out
 have hqn:∀ g,g∈bs'→g ∉ [q]:=by
  intro g hg hgq
  simp at hgq
  subst hgq
  rcases HN.out with h | h
  ·exact hqb (h▸hg)
  ·have:=h g hg
   simp at this
   omega
 refine ⟨rfl,_,bs',HQ.out.set 0 _,HO.out.turn (S:=[q]) ((Turn.refl w1 [q]).setCell (p:=⟨q,0,none⟩) (.inl (by simp)) _) hqn,?_,?_⟩
 ·exact (hTw.mono (fun y hy=>by simp [hy])).setCell (p:=⟨q,0,none⟩) (.inl (by simp)) _
 ·rcases HN.out with h | h
  ·exact .inl h
  ·exact .inr (fun g hg=>by have:=h g hg;simp at this;omega)

theorem OwI.tail {w:World} {lo g off cap:Nat} {x:Int} {l:List Int} {bs:List Nat} (h:OwI w lo (.slice (some ⟨g,off,none⟩) (l.length+1) cap) (x::l) bs) :
  bs=[g]∧1≤cap∧cap≤maxLen∧w.cell? ⟨g,off,none⟩=some (.int .i64 x)∧(cap=1→OwI w lo (.slice (some ⟨g,off,none⟩) l.length (cap - 1)) l bs)∧OwI w lo (.slice (some ⟨g,off+1,none⟩) l.length (cap - 1)) l bs:=by
 rcases h with ⟨h,_⟩ | ⟨g',off',cap',cur,h1,h2,h3,h4,h5,h6,h7,h8⟩
 ·simp at h
 ·simp only [Value.slice.injEq,Option.some.injEq,Addr.mk.injEq,and_true,List.length_cons,true_and] at h1
  obtain ⟨⟨rfl,rfl⟩,rfl⟩:=h1
  simp only [List.length_cons] at h5 h8
  refine ⟨h2,by omega,h6,?_,?_,?_⟩
  ·rw [cell_of_row w g off cur _ _ h4]
   have:=h8 0 (by omega)
   simpa using this
  ·intro hc
   have hl:l=[]:=List.eq_nil_of_length_eq_zero (by omega)
   subst hl
   exact .inr ⟨g,off,cap - 1,cur,rfl,h2,h3,h4,by simp,by omega,by omega,fun j hj=>by simp at hj⟩
  ·refine .inr ⟨g,off+1,cap - 1,cur,rfl,h2,h3,h4,by omega,by omega,by omega,fun j hj=>?_⟩
   have:=h8 (j+1) (by omega)
   rw [show off+1+j=off+(j+1) by omega,this]
   simp

set_option maxHeartbeats 1600000 in
theorem qtake_none (q lo:Nat) (v:Value) (bs:List Nat) (w:World) (hq:Blk w q 168 #[v]) (h:OwI w lo v [] bs) :
  Calls Tryz.prog 132 #[.pointer (some ⟨q,0,none⟩)] w fun e w'=>e = .returned (.tuple #[.int .i64 0,.bool false])∧w=w':=by
 have c0:w.cell? ⟨q,0,none⟩=some v:=hq.cell 0
 obtain ⟨ao,cap,rfl,_⟩:=h.rd
 simp only [List.length_nil] at c0
 clear h hq
 go_enter Tryz.func132,Tryz.ntmps132
 go_wp2
 go_ret2
 exact ⟨rfl,rfl⟩

theorem blk_drew {w:World} {g:Nat} {t:TypeId} {cs:Array Value} (h:Blk w g t cs):Blk w.drew g t cs:=h
def GTakePost (w w':World) (lo q:Nat) (l:List Int) (bs:List Nat):Prop:=
 ∃ v',Blk w' q 168 #[v']∧OwI w' lo v' l bs∧Turn w w' [q]

set_option maxHeartbeats 1600000 in
theorem qtake_some (q lo:Nat) (v:Value) (x:Int) (l:List Int) (bs:List Nat) (w:World) (hq:Blk w q 168 #[v]) (h:OwI w lo v (x::l) bs) (hqb:q ∉ bs) (hlen:l.length≤1000000) :
  Calls Tryz.prog 132 #[.pointer (some ⟨q,0,none⟩)] w fun e w'=>e = .returned (.tuple #[.int .i64 x,.bool true])∧GTakePost w w' lo q l bs:=by
 have c0:w.cell? ⟨q,0,none⟩=some v:=hq.cell 0
 have hf0:w.frozen? ⟨q,0,none⟩=false:=hq.free 0
 obtain ⟨ao,cap,rfl,hrd⟩:=h.rd
 obtain ⟨g,off,rfl,_⟩:=hrd 0 (by simp)
 simp only [List.length_cons] at c0 h
 obtain ⟨hbs,hc1,hcm,cx,hO1,hO2⟩:=h.tail
 obtain ⟨n,hn⟩:∃ n,l.length=n:=⟨_,rfl⟩
 rw [hn] at c0 hO1 hO2 hlen
 have HQ:=Lib.hid hq
 simp only [List.length_cons] at HQ
 rw [hn] at HQ
 have HO1:=Lib.hid hO1
 have HO2:=Lib.hid hO2
 have HB:=Lib.hid hbs
 have hcm':cap≤9223372036854775807:=by unfold maxLen at hcm;omega
 have hnc:n+1≤cap:=by
  rcases hO2 with ⟨hh,_⟩ | ⟨_,_,_,_,hh,_,_,_,hx,_⟩
  ·simp at hh
  ·simp only [Value.slice.injEq] at hh
   omega
 clear hq h hO1 hO2 hbs hrd hcm
 by_cases hcap:cap=1
 ·subst hcap
  obtain rfl:n=0:=by omega
  go_enter Tryz.func132,Tryz.ntmps132
  go_wp2
  go_region
  all_goals go_wp2
  all_goals go_ret2
  all_goals refine ⟨rfl,_,blk_drew (HQ.out.set 0 _),(HO1.out trivial).turn (S:=[q]) (((Turn.refl w [q]).setCell (p:=⟨q,0,none⟩) (.inl (by simp)) _).drew) (fun y hy hyq=>by simp at hyq;subst hyq;exact hqb hy),((Turn.refl w [q]).setCell (p:=⟨q,0,none⟩) (.inl (by simp)) _).drew⟩
 ·clear HO1
  go_enter Tryz.func132,Tryz.ntmps132
  go_wp2
  go_region
  all_goals go_wp2
  all_goals go_ret2
  all_goals refine ⟨rfl,_,blk_drew (HQ.out.set 0 _),HO2.out.turn (S:=[q]) (((Turn.refl w [q]).setCell (p:=⟨q,0,none⟩) (.inl (by simp)) _).drew) (fun y hy hyq=>by simp at hyq;subst hyq;exact hqb hy),((Turn.refl w [q]).setCell (p:=⟨q,0,none⟩) (.inl (by simp)) _).drew⟩


theorem info_sint:(Tryz.prog.info? 106).map (fun i=>(i.zero,i.size,i.bytes))=some (some (.slice none 0 0),1,24):=by kernel_rfl
def OwS (w:World) (lo:Nat) (v:Value) (l:List Value) (bs:List Nat):Prop:=
 (v = .slice none 0 0∧l=[]∧bs=[]) ∨
 ∃ g off cap cur,v = .slice (some ⟨g,off,none⟩) l.length cap∧bs=[g]∧lo≤g∧w.heap[g]? = some (.cells cur 106 (0,0))∧l.length≤cap∧cap≤maxLen∧off+cap≤cur.size ∧
  ∀ j,j<l.length→cur[off+j]? = some (l.getD j undef)
section
variable {w w':World} {lo:Nat} {v:Value} {l:List Value} {bs S:List Nat}
theorem OwS.nil (w:World) (lo:Nat):OwS w lo (.slice none 0 0) [] []:=.inl ⟨rfl,rfl,rfl⟩
theorem OwS.turn (h:OwS w lo v l bs) (hT:Turn w w' S) (hb:∀ g,g∈bs→g ∉ S):OwS w' lo v l bs:=by
 rcases h with h | ⟨g,off,cap,cur,h1,h2,h3,h4,h5⟩
 ·exact .inl h
 ·exact .inr ⟨g,off,cap,cur,h1,h2,h3,hT.at h4 (hb g (by rw [h2];simp)),h5⟩
theorem OwS.alloc (h:OwS w lo v l bs) (o:Obj):OwS (w.alloc o) lo v l bs:=h.turn (S:=[]) ((Turn.refl w []).alloc o) (fun _ _=>by simp)
theorem OwS.lt (h:OwS w lo v l bs) {g:Nat} (hg:g∈bs):g<w.heap.size∧lo≤g:=by
 rcases h with ⟨_,_,h⟩ | ⟨g',off,cap,cur,h1,h2,h3,h4,h5⟩
 ·rw [h] at hg;simp at hg
 ·rw [h2] at hg;simp at hg;subst hg;exact ⟨block_lt h4,h3⟩
theorem OwS.rd (h:OwS w lo v l bs):∃ ao cap,v = .slice ao l.length cap∧∀ k,k<l.length→∃ b off,ao=some ⟨b,off,none⟩∧∀ j,j<l.length→w.cell? ⟨b,off+j,none⟩=some (l.getD j undef):=by
 rcases h with ⟨rfl,rfl,_⟩ | ⟨g,off,cap,cur,rfl,h2,h3,h4,h5,h6,h7,h8⟩
 ·exact ⟨none,0,rfl,fun k hk=>by simp at hk⟩
 ·exact ⟨_,cap,rfl,fun _ _=>⟨g,off,rfl,fun j hj=>by rw [cell_of_row w g (off+j) cur _ _ h4];exact h8 j hj⟩⟩
theorem OwS.append (h:OwS w lo v l bs) (hlo:lo≤w.heap.size) (hlen:l.length≤1000000) (ty:TypeId) (ad:Addr) (c:Nat) (x:Value) (hx1:x.oneCell'=true) (hx:w.cell? ad=some x) :
  ∃ v' w' bs',(Builtin.append_ #[190,190] ty #[v,.slice (some ad) 1 c]).run Tryz.prog w = .ok v' w'∧OwS w' lo v' (l++[x]) bs'∧Turn w w' bs∧(bs'=bs∨∀ g,g∈bs'→w.heap.size≤g)∧(∃ ao cap,v' = .slice ao (l.length+1) cap):=by
 obtain ⟨i0,hi,hz0,hz1,hz2⟩:=info_parts info_sint
 have hnews:∀ j u,([x]:List Value)[j]? = some u→w.cell? (ad.add j)=some u:=by
  intro j u hj
  match j,hj with
  | 0,hj=>
   simp at hj
   subst hj
   have:ad.add 0=ad:=by unfold Addr.add;split<;>simp_all
   rw [this]
   exact hx
 have h1c:∀ u∈([x]:List Value),u.oneCell'=true:=by intro u hu;simp at hu;subst hu;exact hx1
 have own:∀ {v' w'},w'.ownsRow w.heap.size 106 1 v' (l.length+1) (l++[x])→∃ g,OwS w' lo v' (l++[x]) [g]∧w.heap.size≤g∧∃ ao cap,v' = .slice ao (l.length+1) cap:=by
  intro v' w' ho
  rcases ho.2 with ⟨_,h0⟩ | ⟨g,cap,cur,rfl,hg,hh,hnc,hml,hcs,htk⟩
  ·omega
  ·refine ⟨g,.inr ⟨g,0,cap,cur,by simp,rfl,by omega,hh,by simp;omega,hml,by omega,?_⟩,hg,_,_,rfl⟩
   intro j hj
   rw [Nat.zero_add,← Array.getElem?_toList]
   have e:=congrArg (·[j]?) htk
   rw [Nat.mul_one,List.getElem?_take,if_pos (by simpa using hj)] at e
   rw [e,List.getD_eq_getElem?_getD,List.getElem?_eq_getElem hj,Option.getD_some]
 rcases h with ⟨rfl,rfl,rfl⟩ | ⟨g,off,cap,cur,rfl,rfl,h3,h4,h5,h6,h7,h8⟩
 ·obtain ⟨v',w',hr,ho,hg,_⟩:=run_append_own (P:=Tryz.prog) w w.heap.size 190 ty 106 i0 (.slice none 0 0) 1 24 Tryz.underlying190 hi hz0 hz1 hz2 rfl (by decide) (.slice none 0 0) 0 [] (World.ownsRow_nil w _ _ _) ad 1 c [x] rfl hnews
   h1c (by unfold maxLen;omega) (by omega) (Nat.le_refl _)
  obtain ⟨g,hO,hge,ha⟩:=own ho
  exact ⟨v',w',[g],hr,hO,Turn.of_grown hg (fun k hk=>by simp [Value.ownBlock] at hk),.inr (fun j hj=>by simp at hj;omega),ha⟩
 ·by_cases hroom:l.length+1≤cap
  ·have hcell:∀ j,j<([x]:List Value).length→(w.cell? ⟨g,off+l.length*i0.size+j,none⟩).isSome=true:=by
    intro j hj
    simp at hj
    subst hj
    rw [hz1,cell_of_row w g _ cur _ _ h4,Array.getElem?_eq_getElem (by omega)]
    rfl
   have hfr:∀ j,j<([x]:List Value).length→w.frozen? ⟨g,off+l.length*i0.size+j,none⟩=false:=by
    intro j _
    simp [World.frozen?,h4]
   have hr:=run_append_room_cells (P:=Tryz.prog) w 190 ty 106 i0 Tryz.underlying190 hi g off l.length cap ad 1 c [x] (by rw [hz1];rfl) hnews h1c hroom hcell hfr
   refine ⟨_,_,[g],hr,.inr ⟨g,off,cap,cur.setIfInBounds (off+l.length) x,by simp,rfl,h3,?_,by simp;omega,h6,by simp;omega,?_⟩,?_,.inl rfl,_,_,rfl⟩
   ·rw [hz1,Nat.mul_one]
    show (w.setCell ⟨g,off+l.length,none⟩ x).heap[g]? = _
    simp [World.setCell,Array.getElem?_modify,h4]
   ·intro j hj
    rw [Array.getElem?_setIfInBounds]
    rcases Nat.lt_or_ge j l.length with hjl | hjl
    ·rw [if_neg (by omega),h8 j hjl]
     simp [List.getD_eq_getElem?_getD,List.getElem?_append_left hjl]
    ·have:j=l.length:=by simp at hj;omega
     subst this
     rw [if_pos rfl,if_pos (by omega)]
     simp [List.getD_eq_getElem?_getD]
   ·rw [hz1,Nat.mul_one]
    exact (Turn.refl w [g]).setCell (p:=⟨g,off+l.length,none⟩) (.inl (by simp)) _
  ·have holds:∀ j u,l[j]? = some u→w.cell? ((⟨g,off,none⟩:Addr).add j)=some u:=by
    intro j u hj
    obtain ⟨hjl,hj'⟩:=List.getElem?_eq_some_iff.1 hj
    have:=h8 j hjl
    rw [List.getD_eq_getElem?_getD,hj,Option.getD_some] at this
    rw [add_zero_addr,cell_of_row w g _ cur _ _ h4]
    exact this
   obtain ⟨v',w',hr,ho,hg⟩:=run_append_arg_grows (P:=Tryz.prog) w 190 ty 106 i0 (.slice none 0 0) 1 24 Tryz.underlying190 hi hz0 hz1 hz2 rfl (by decide) ⟨g,off,none⟩ l.length cap l (by simp) holds ad 1 c [x] rfl hnews
    (by omega) (by unfold maxLen;omega) (by omega)
   obtain ⟨g',hO,hge,ha⟩:=own ho
   exact ⟨v',w',[g'],hr,hO,Turn.of_grown hg (fun k hk=>by simp at hk),.inr (fun j hj=>by simp at hj;omega),ha⟩
end

theorem clone_append {w:World} {ao:Option Addr} {c:Nat} {l:List Int} (hnil:ao=none→l.length=0∧c=0) (h:RdI w ao l) (hlen:l.length≤1000000) (ty:TypeId) (lo:Nat) (hlo:lo≤w.heap.size) :
  ∃ v' w' bs',(Builtin.append_ #[106,106] ty #[.slice (some ⟨w.heap.size,0,none⟩) 0 0,.slice ao l.length c]).run Tryz.prog (w.alloc (.cells #[] 3)) = .ok v' w'∧OwI w' lo v' l bs'∧Turn w w' []∧(∀ g,g∈bs'→w.heap.size≤g)∧(∃ ao cap,v' = .slice ao l.length cap):=by
 obtain ⟨i0,hi,hz0,hz1,hz2⟩:=info_parts ginfo_i64
 have hown:(w.alloc (.cells #[] 3)).ownsRow w.heap.size 3 1 (.slice (some ⟨w.heap.size,0,none⟩) 0 0) 0 []:=
  ⟨by simp,.inr ⟨w.heap.size,0,#[],rfl,Nat.le_refl _,heap_alloc_new w _,Nat.le_refl _,Nat.zero_le _,by simp,by simp⟩⟩
 have own:∀ {v' w'},w'.ownsRow w.heap.size 3 1 v' l.length (l.map (Value.int .i64))→v' ≠ .slice none 0 0→∃ g,OwI w' lo v' l [g]∧w.heap.size≤g∧∃ ao cap,v' = .slice ao l.length cap:=by
  intro v' w' ho hne
  rcases ho.2 with ⟨h0,_⟩ | ⟨g,cap,cur,rfl,hg,hh,hnc,hml,hcs,htk⟩
  ·exact absurd h0 hne
  ·refine ⟨g,.inr ⟨g,0,cap,cur,rfl,rfl,by omega,hh,hnc,hml,by omega,?_⟩,hg,_,_,rfl⟩
   intro j hj
   rw [Nat.zero_add,← Array.getElem?_toList]
   have e:=congrArg (·[j]?) htk
   rw [Nat.mul_one,List.getElem?_take,if_pos hj] at e
   rw [e]
   simp [List.getD_eq_getElem?_getD,hj]
 rcases ao with _ | ad
 ·obtain ⟨h0,rfl⟩:=hnil rfl
  obtain rfl:l=[]:=List.eq_nil_of_length_eq_zero h0
  have hr:=run_append_owned_none (P:=Tryz.prog) (w.alloc (.cells #[] 3)) w.heap.size 106 ty 3 i0 1 Tryz.underlying106 hi _ 0 [] hown
  refine ⟨_,_,[w.heap.size],hr,.inr ⟨w.heap.size,0,0,#[],rfl,rfl,hlo,heap_alloc_new w _,Nat.le_refl _,Nat.zero_le _,by simp,fun j hj=>by simp at hj⟩,(Turn.refl w []).alloc _,fun g hg=>by simp at hg;omega,_,_,rfl⟩
 ·have hcells:∀ j u,(l.map (Value.int .i64))[j]? = some u→(w.alloc (.cells #[] 3)).cell? (ad.add j)=some u:=by
   intro j u hu
   simp only [List.getElem?_map,Option.map_eq_some_iff] at hu
   obtain ⟨x,hx,rfl⟩:=hu
   obtain ⟨hj,hx'⟩:=List.getElem?_eq_some_iff.1 hx
   obtain ⟨b,off,e,hc⟩:=h j hj
   simp only [Option.some.injEq] at e
   subst e
   have:=hc j hj
   rw [List.getD_eq_getElem?_getD,hx,Option.getD_some] at this
   rw [add_zero_addr,World.cell?_alloc_lt w _ _ (World.block_lt_of_cell? w _ this)]
   exact this
  obtain ⟨v',w',hr,ho,hg,hn⟩:=run_append_own (P:=Tryz.prog) (w.alloc (.cells #[] 3)) w.heap.size 106 ty 3 i0 (.int .i64 0) 1 8 Tryz.underlying106 hi hz0 hz1 hz2 rfl (by decide) (.slice (some ⟨w.heap.size,0,none⟩) 0 0) 0 [] hown ad l.length c
   (l.map (Value.int .i64)) (by simp) hcells (by simp [Value.oneCell']) (by unfold maxLen;omega) (by omega) (by simp)
  rw [Nat.zero_add,List.nil_append] at ho
  obtain ⟨g,hO,hge,ha⟩:=own ho (fun e=>by have:=(hn.1 e).1;simp at this)
  exact ⟨v',w',[g],hr,hO,((Turn.refl w []).alloc (.cells #[] 3)).new (Turn.of_grown (S:=[w.heap.size]) hg (fun k hk=>by simp [Value.ownBlock] at hk;exact .inl (by simp [hk]))) (fun j hj=>.inl (by simp at hj;omega)),fun j hj=>by simp at hj;omega,ha⟩


def RMem (w:World) (lo:Nat) (S:List (Int × List Int)) (v9 v10:Value):Prop:=
 ∃ bs9 vals bs10,OwI w lo v9 (S.map Prod.fst) bs9∧OwS w lo v10 vals bs10∧vals.length=S.length∧(∀ g,g∈bs9→g ∉ bs10) ∧
  ∀ j,j<S.length→∃ pb,OwI w lo (vals.getD j undef) (S.getD j (0,[])).2 pb∧∀ g,g∈pb→g ∉ bs9∧g ∉ bs10
theorem OwI.new {w:World} {lo n c:Nat} {ao:Option Addr} {l:List Int} {bs:List Nat} (h:OwI w lo (.slice ao n c) l bs):c≤maxLen∧∀ b o s,ao=some ⟨b,o,s⟩→lo≤b:=by
 rcases h with ⟨h1,_⟩ | ⟨g,off,cap,cur,e,h2,h3,h4,h5,h6,h7,h8⟩
 ·simp only [Value.slice.injEq] at h1
  obtain ⟨rfl,_,rfl⟩:=h1
  exact ⟨Nat.zero_le _,fun b o s q=>by cases q⟩
 ·simp only [Value.slice.injEq] at e
  obtain ⟨rfl,_,rfl⟩:=e
  exact ⟨h6,fun b o s q=>by cases q;exact h3⟩
theorem RMem.rd {w:World} {lo:Nat} {S:List (Int × List Int)} {a9 a10:Option Addr} {n c9 c10 a:Nat} {x:Int} {px:List Int} (h:RMem w lo S (.slice a9 n c9) (.slice a10 n c10)) (ha:S[a]? = some (x,px)) :
  ∃ b9 o9 b10 o10 ao c,a9=some ⟨b9,o9,none⟩∧a10=some ⟨b10,o10,none⟩∧w.cell? ⟨b9,o9+a,none⟩=some (.int .i64 x)∧w.cell? ⟨b10,o10+a,none⟩=some (.slice ao px.length c)∧RdI w ao px∧px.length≤c∧c≤maxLen∧∀ b o s,ao=some ⟨b,o,s⟩→lo≤b:=by
 obtain ⟨bs9,vals,bs10,h9,h10,hl,_,hp⟩:=h
 obtain ⟨hal,ha'⟩:=List.getElem?_eq_some_iff.1 ha
 obtain ⟨ao9,cap9,e9,hr9⟩:=h9.rd
 simp only [Value.slice.injEq] at e9
 obtain ⟨rfl,_,rfl⟩:=e9
 obtain ⟨ao10,cap10,e10,hr10⟩:=h10.rd
 simp only [Value.slice.injEq] at e10
 obtain ⟨rfl,_,rfl⟩:=e10
 obtain ⟨b9,o9,rfl,hc9⟩:=hr9 a (by simpa using hal)
 obtain ⟨b10,o10,rfl,hc10⟩:=hr10 a (by omega)
 obtain ⟨pb,hO,_⟩:=hp a hal
 have e:S.getD a (0,[])=(x,px):=by rw [List.getD_eq_getElem?_getD,ha,Option.getD_some]
 rw [e] at hO
 obtain ⟨ao,c,ev,hr⟩:=hO.rd
 refine ⟨b9,o9,b10,o10,ao,c,rfl,rfl,?_,?_,hr,by rw [ev] at hO;exact ⟨hO.cap,hO.new⟩⟩
 ·rw [hc9 a (by simpa using hal)]
  simp [List.getD_eq_getElem?_getD,ha]
 ·rw [hc10 a (by omega),ev]

theorem RMem.drewN {w:World} {lo:Nat} {S:List (Int × List Int)} {v9 v10:Value} (h:RMem w lo S v9 v10) (n:Nat):RMem (w.drewN n) lo S v9 v10:=h
theorem RMem.rd9 {w:World} {lo:Nat} {S:List (Int × List Int)} {a9:Option Addr} {n c9:Nat} {v10:Value} (h:RMem w lo S (.slice a9 n c9) v10):RdI w a9 (S.map Prod.fst):=by
 obtain ⟨bs9,vals,bs10,h9,_⟩:=h
 obtain ⟨ao9,cap9,e9,hr9⟩:=h9.rd
 simp only [Value.slice.injEq] at e9
 obtain ⟨rfl,_,rfl⟩:=e9
 exact hr9
theorem RMem.start {W:World} {lo:Nat} (hlo:lo≤W.heap.size) :
  RMem ((W.alloc (.cells #[.int .i64 1] 3)).alloc (.cells #[.slice none 0 0] 106)) lo [(1,[])] (.slice (some ⟨W.heap.size,0,none⟩) 1 1) (.slice (some ⟨W.heap.size+1,0,none⟩) 1 1):=by
 have k0:Blk ((W.alloc (.cells #[.int .i64 1] 3)).alloc (.cells #[.slice none 0 0] 106)) W.heap.size 3 #[.int .i64 1]:=(Blk.new W _ _).alloc _
 have k1:=Blk.new (W.alloc (.cells #[.int .i64 1] 3)) 106 #[.slice none 0 0]
 simp only [World.size_alloc] at k1
 refine ⟨[W.heap.size],[.slice none 0 0],[W.heap.size+1],.inr ⟨W.heap.size,0,1,_,rfl,rfl,hlo,k0,by simp,by unfold maxLen;omega,by simp,?_⟩,.inr ⟨W.heap.size+1,0,1,_,rfl,rfl,by omega,k1,by simp,by unfold maxLen;omega,by simp,?_⟩,rfl,by simp,?_⟩
 ·intro j hj
  have:j=0:=by simp at hj;omega
  subst this
  rfl
 ·intro j hj
  have:j=0:=by simp at hj;omega
  subst this
  rfl
 ·intro j hj
  have:j=0:=by simp at hj;omega
  subst this
  exact ⟨[],OwI.nil _ _,fun g hg=>by simp at hg⟩
theorem RMem.grow {w : World} {lo : Nat} {S : List (Int × List Int)} {a9 a10 : Option Addr} {n c9 c10 a : Nat} {x : Int} {px : List Int} (h : RMem w lo S (.slice a9 n c9) (.slice a10 n c10)) (hn : S.length = n) (hlo : lo ≤ w.heap.size) (hn64 : n ≤ 1000)
  (ha : S[a]? = some (x, px)) (hpl : px.length ≤ 1000) (nx : Int) (i : Nat) :
  ∃ a9' c9' w1 b10 o10 ao c a2 c2 w2 a3 c3 w3 a10' c10' w4,
   (Builtin.append_ #[106, 106] 106 #[.slice a9 n c9, .slice (some ⟨w.heap.size, 0, none⟩) 1 1]).run Tryz.prog (w.alloc (.cells #[.int .i64 nx] 3)) = .ok (.slice a9' (n + 1) c9') w1 ∧
   a10 = some ⟨b10, o10, none⟩ ∧ w1.cell? ⟨b10, o10 + a, none⟩ = some (.slice ao px.length c) ∧
   (Builtin.append_ #[106, 106] 106 #[.slice (some ⟨w1.heap.size, 0, none⟩) 0 0, .slice ao px.length c]).run Tryz.prog (w1.alloc (.cells #[] 3)) = .ok (.slice a2 px.length c2) w2 ∧
   (Builtin.append_ #[106, 106] 106 #[.slice a2 px.length c2, .slice (some ⟨w2.heap.size, 0, none⟩) 1 1]).run Tryz.prog (w2.alloc (.cells #[.int .i64 i] 3)) = .ok (.slice a3 (px.length + 1) c3) w3 ∧
   (Builtin.append_ #[190, 190] 190 #[.slice a10 n c10, .slice (some ⟨w3.heap.size, 0, none⟩) 1 1]).run Tryz.prog (w3.alloc (.cells #[.slice a3 (px.length + 1) c3] 106)) = .ok (.slice a10' (n + 1) c10') w4 ∧
   RMem w4 lo (S ++ [(nx, px ++ [(i : Int)])]) (.slice a9' (n + 1) c9') (.slice a10' (n + 1) c10') ∧ Below lo w w4 := by
 obtain ⟨bs9, vals, bs10, h9, h10, hl, hd, hp⟩ := h
 obtain ⟨hal, _⟩ := List.getElem?_eq_some_iff.1 ha
 have hm : (S.map Prod.fst).length = n := by simp [hn]
 have hd' : ∀ g, g ∈ bs10 → g ∉ bs9 := fun g h1 h2 => hd g h2 h1
 -- the first append
 obtain ⟨v9', w1, bs9', hr1, hO9, hT1, hN9, a9', c9', rfl⟩ := (h9.alloc (.cells #[.int .i64 nx] 3)).append (by simp; omega) (by omega) 106 ⟨w.heap.size, 0, none⟩ 1 nx ((Blk.new w _ _).cell 0)
 have hTw1 : Turn w w1 bs9 := ((Turn.refl w bs9).alloc _).trans hT1
 have hs1 := hT1.size
 simp only [World.size_alloc] at hs1
 have hlt9 : ∀ g, g ∈ bs9 → g < w.heap.size := fun g hg => (h9.lt hg).1
 have hlt10 : ∀ g, g ∈ bs10 → g < w.heap.size := fun g hg => (h10.lt hg).1
 have h9f : ∀ g, g ∈ bs9' → g ∈ bs9 ∨ w.heap.size ≤ g := fun g hg => by
  rcases hN9 with e | e
  ·exact .inl (e ▸ hg)
  ·have := e g hg; simp at this; exact .inr (by omega)
 have hlt9' : ∀ g, g ∈ bs9' → g < w1.heap.size := fun g hg => (hO9.lt hg).1
 have h10a := h10.turn hTw1 hd'
 -- what is read
 obtain ⟨pb, hpO, hpd⟩ := hp a hal
 have epx : (S.getD a (0, [])).2 = px := by rw [List.getD_eq_getElem?_getD, ha, Option.getD_some]
 rw [epx] at hpO
 have hpO1 := hpO.turn hTw1 (fun g hg => (hpd g hg).1)
 obtain ⟨ao10, cap10, e10, hr10⟩ := h10a.rd
 simp only [Value.slice.injEq] at e10
 obtain ⟨rfl, e10n, rfl⟩ := e10
 obtain ⟨b10, o10, rfl, hc10⟩ := hr10 a (by omega)
 have hcell := hc10 a (by omega)
 obtain ⟨ao, c, ev, hrp⟩ := hpO1.rd
 rw [ev] at hcell
 have hnil : ao = none → px.length = 0 ∧ c = 0 := by
  intro e
  rcases hpO1 with ⟨e1, e2, _⟩ | ⟨g, off, cap, cur, e1, _⟩
  ·rw [ev] at e1
   simp only [Value.slice.injEq] at e1
   exact e1.2
  ·rw [ev, e] at e1
   simp at e1
 -- the copy
 obtain ⟨v2, w2, bs2, hr2, hO2, hT2, hN2, a2, c2, rfl⟩ := clone_append (c := c) hnil hrp (by omega) 106 lo (by omega)
 have hs2 := hT2.size
 -- one index more
 obtain ⟨v3, w3, bs3, hr3, hO3, hT3, hN3, a3, c3, rfl⟩ := (hO2.alloc (.cells #[.int .i64 (i : Int)] 3)).append (by simp; omega) (by omega) 106 ⟨w2.heap.size, 0, none⟩ 1 i ((Blk.new w2 _ _).cell 0)
 have hTw3 : Turn w2 w3 bs2 := ((Turn.refl w2 bs2).alloc _).trans hT3
 have hs3 := hT3.size
 simp only [World.size_alloc] at hs3
 have h3f : ∀ g, g ∈ bs3 → w1.heap.size ≤ g := fun g hg => by
  rcases hN3 with e | e
  ·exact hN2 g (e ▸ hg)
  ·have := e g hg; simp at this; omega
 have h3l : ∀ g, g ∈ bs3 → g < w3.heap.size := fun g hg => (hO3.lt hg).1
 have hT13 : Turn w1 w3 bs2 := (hT2.mono (fun _ hx => by simp at hx)).trans hTw3
 have h10b := h10a.turn hT13 (fun g hg hg2 => by have := hlt10 g hg; have := hN2 g hg2; omega)
 -- the last append
 obtain ⟨v10', w4, bs10', hr4, hO10, hT4, hN10, a10', c10', rfl⟩ := (h10b.alloc (.cells #[.slice a3 (px.length + 1) c3] 106)).append (by simp; omega) (by omega) 190 ⟨w3.heap.size, 0, none⟩ 1 (.slice a3 (px.length + 1) c3) rfl ((Blk.new w3 _ _).cell 0)
 have hTw4 : Turn w3 w4 bs10 := ((Turn.refl w3 bs10).alloc _).trans hT4
 have h10f : ∀ g, g ∈ bs10' → g ∈ bs10 ∨ w3.heap.size < g := fun g hg => by
  rcases hN10 with e | e
  ·exact .inl (e ▸ hg)
  ·have := e g hg; simp at this; exact .inr (by omega)
 rw [hl, hn] at hr4 hO10
 rw [hm] at hr1 hO9
 have hT14 : Turn w1 w4 (bs2 ++ bs10) := (hT13.mono (fun _ hx => by simp [hx])).trans (hTw4.mono (fun _ hx => by simp [hx]))
 have hT04 : Turn w w4 (bs9 ++ (bs2 ++ bs10)) := (hTw1.mono (fun _ hx => by simp [hx])).trans (hT14.mono (fun _ hx => by simp at hx; simp [hx]))
 refine ⟨a9', c9', w1, b10, o10, ao, c, a2, c2, w2, a3, c3, w3, a10', c10', w4, hr1, rfl, hcell, hr2, hr3, hr4, ⟨bs9', vals ++ [.slice a3 (px.length + 1) c3], bs10', ?_, hO10, by simp [hl], ?_, ?_⟩, ?_⟩
 ·have e : (S ++ [(nx, px ++ [(i : Int)])]).map Prod.fst = S.map Prod.fst ++ [nx] := by simp
  rw [e]
  refine hO9.turn hT14 (fun g hg hx => ?_)
  simp only [List.mem_append] at hx
  rcases hx with hx | hx
  ·have := hlt9' g hg; have := hN2 g hx; omega
  ·rcases h9f g hg with k | k
   ·exact hd g k hx
   ·have := hlt10 g hx; omega
 ·intro g hg hx
  rcases h10f g hx with k | k
  ·rcases h9f g hg with k' | k'
   ·exact hd g k' k
   ·have := hlt10 g k; omega
  ·have := hlt9' g hg; omega
 ·intro j hj
  rcases Nat.lt_or_ge j S.length with hjl | hjl
  ·obtain ⟨pb', hO', hd2⟩ := hp j hjl
   have hlp : ∀ g, g ∈ pb' → g < w.heap.size := fun g hg => (hO'.lt hg).1
   refine ⟨pb', ?_, ?_⟩
   ·rw [List.getD_eq_getElem?_getD, List.getElem?_append_left (by omega), ← List.getD_eq_getElem?_getD, List.getD_eq_getElem?_getD (l := S ++ _), List.getElem?_append_left hjl, ← List.getD_eq_getElem?_getD]
    refine hO'.turn hT04 (fun g hg hx => ?_)
    simp only [List.mem_append] at hx
    rcases hx with hx | hx | hx
    ·exact (hd2 g hg).1 hx
    ·have := hlp g hg; have := hN2 g hx; omega
    ·exact (hd2 g hg).2 hx
   ·intro g hg
    refine ⟨fun hx => ?_, fun hx => ?_⟩
    ·rcases h9f g hx with k | k
     ·exact (hd2 g hg).1 k
     ·have := hlp g hg; omega
    ·rcases h10f g hx with k | k
     ·exact (hd2 g hg).2 k
     ·have := hlp g hg; omega
  ·have : j = S.length := by simp at hj; omega
   subst this
   refine ⟨bs3, ?_, ?_⟩
   ·have e1 : (vals ++ [Value.slice a3 (px.length + 1) c3]).getD S.length undef = Value.slice a3 (px.length + 1) c3 := by simp [List.getD_eq_getElem?_getD, ← hl]
    have e2 : (S ++ [(nx, px ++ [(i : Int)])]).getD S.length (0, []) = (nx, px ++ [(i : Int)]) := by simp [List.getD_eq_getElem?_getD]
    rw [e1, e2]
    refine hO3.turn hTw4 (fun g hg hx => ?_)
    have := hlt10 g hx
    have := h3f g hg
    omega
   ·intro g hg
    refine ⟨fun hx => ?_, fun hx => ?_⟩
    ·have := hlt9' g hx; have := h3f g hg; omega
    ·rcases h10f g hx with k | k
     ·have := hlt10 g k; have := h3f g hg; omega
     ·have := h3l g hg; omega
 ·refine hT04.belowN hlo (fun k hk => ?_)
  simp only [List.mem_append] at hk
  rcases hk with hk | hk | hk
  ·exact (h9.lt hk).2
  ·have := hN2 k hk; omega
  ·exact (h10.lt hk).2


def bstep (m x:Int) (px:List Int) (S:List (Int × List Int)) (i:Nat) (k:Int):List (Int × List Int):=
 if (S.map Prod.fst).contains (x*k % m) then S else S++[(x*k % m,px++[(i:Int)])]
def bround (m:Int) (h:List Int) (x:Int) (px:List Int) (S:List (Int × List Int)):Nat→List (Int × List Int)
 | 0=>S
 | j+1=>bstep m x px (bround m h x px S j) j (h.getD j 0)
def bfs (m:Int) (h:List Int) (want:Int):Nat→Nat→List (Int × List Int)→Option (List Int)
 | 0,_,_=>none
 | f+1,a,S=>match S[a]? with
  | none=>none
  | some (x,px)=>if x=want then some px else bfs m h want f (a+1) (bround m h x px S h.length)

theorem nodup_bound:∀ (n:Nat) (l:List Int),l.Nodup→(∀ x,x∈l→0≤x∧x<(n:Int))→l.length≤n:=by
 intro n
 induction n with
 | zero=>
  intro l _ h
  rcases l with _ | ⟨x,l⟩
  ·simp
  ·have:=h x (by simp);omega
 | succ n ih=>
  intro l hn h
  by_cases hm:(n:Int)∈l
  ·have h1:=ih (l.erase n) (hn.erase _) (fun x hx=>by
    have hx':=(List.Nodup.mem_erase_iff hn).1 hx
    have:=h x hx'.2
    have:=hx'.1
    omega)
   rw [List.length_erase_of_mem hm] at h1
   omega
  ·have:=ih l hn (fun x hx=>by
    have:=h x hx
    have:x≠n:=fun e=>hm (e▸hx)
    omega)
   omega
def BInv (m:Int) (S:List (Int × List Int)):Prop:=(S.map Prod.fst).Nodup∧∀ p,p∈S→0≤p.1∧p.1<m
theorem BInv.start {m:Int} (hm:2≤m):BInv m [(1,[])]:=⟨by simp,fun p hp=>by simp at hp;subst hp;simp;omega⟩
theorem BInv.step {m x:Int} {px:List Int} {S:List (Int × List Int)} {i:Nat} {k:Int} (h:BInv m S) (hm:0<m):BInv m (bstep m x px S i k):=by
 unfold bstep
 split
 ·exact h
 ·rename_i hc
  refine ⟨?_,?_⟩
  ·rw [List.map_append,List.nodup_append]
   refine ⟨h.1,by simp,?_⟩
   intro a ha b hb
   simp at hb
   subst hb
   intro e
   subst e
   exact hc (by simpa using ha)
  ·intro p hp
   rcases List.mem_append.1 hp with hp | hp
   ·exact h.2 p hp
   ·simp at hp
    subst hp
    exact ⟨Int.emod_nonneg _ (by omega),Int.emod_lt_of_pos _ hm⟩
theorem BInv.round {m x:Int} {px:List Int} {S:List (Int × List Int)} {h:List Int} (hS:BInv m S) (hm:0<m):∀ j,BInv m (bround m h x px S j)
 | 0=>hS
 | j+1=>(hS.round hm j).step hm
theorem BInv.length {m:Int} {S:List (Int × List Int)} (h:BInv m S) (hm:m≤64) (hm0:0≤m):S.length≤64:=by
 have:=nodup_bound m.toNat (S.map Prod.fst) h.1 (fun x hx=>by
  obtain ⟨p,hp,rfl⟩:=List.mem_map.1 hx
  have:=h.2 p hp
  omega)
 rw [List.length_map] at this
 omega
theorem bstep_get {m x:Int} {px:List Int} {S:List (Int × List Int)} {i:Nat} {k:Int} {a:Nat} {p:Int × List Int} (h:S[a]? = some p):(bstep m x px S i k)[a]? = some p:=by
 unfold bstep
 split
 ·exact h
 ·rw [List.getElem?_append_left (List.getElem?_eq_some_iff.1 h).1];exact h
theorem bround_get {m x:Int} {px:List Int} {S:List (Int × List Int)} {h:List Int} {a:Nat} {p:Int × List Int} (hp:S[a]? = some p):∀ j,(bround m h x px S j)[a]? = some p
 | 0=>hp
 | j+1=>bstep_get (bround_get hp j)
def BLen (S:List (Int × List Int)):Prop:=∀ (j:Nat) (p:Int × List Int),S[j]? = some p→p.2.length≤j
theorem BLen.start:BLen [(1,[])]:=fun j p h=>by
 rcases j with _ | j
 ·simp at h;subst h;simp
 ·simp at h
theorem BLen.step {m x:Int} {px:List Int} {S:List (Int × List Int)} {i:Nat} {k:Int} {a:Nat} (h:BLen S) (ha:S[a]? = some (x,px)):BLen (bstep m x px S i k):=by
 unfold bstep
 split
 ·exact h
 ·intro j p hj
  have hal:=(List.getElem?_eq_some_iff.1 ha).1
  rcases Nat.lt_or_ge j S.length with hl | hl
  ·rw [List.getElem?_append_left hl] at hj;exact h j p hj
  ·rw [List.getElem?_append_right hl] at hj
   have:j - S.length=0:=by
    rcases Nat.eq_zero_or_pos (j - S.length) with h0 | h0
    ·exact h0
    ·rw [List.getElem?_eq_none (by simp;omega)] at hj;simp at hj
   rw [this] at hj
   simp at hj
   subst hj
   have:=h a _ ha
   simp at this ⊢
   omega
theorem BLen.round {m x:Int} {px:List Int} {S:List (Int × List Int)} {h:List Int} {a:Nat} (hS:BLen S) (ha:S[a]? = some (x,px)):∀ j,BLen (bround m h x px S j)
 | 0=>hS
 | j+1=>(hS.round ha j).step (bround_get ha j)
end Go.Proofs.YtmjildbdkecolaaGreat
