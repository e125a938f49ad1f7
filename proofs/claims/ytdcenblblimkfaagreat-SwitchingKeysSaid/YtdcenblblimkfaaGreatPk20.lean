/- Boxes under other names: for the rounds of a range over a function. No walk.
A range over a function, by data. No walk.
Renaming, ranges over functions, calls that turn a box: by lists. No walk.
The driver: to the end of this region. No walk.
A call that turns a box and whose result names it. No walk. -/
import Derived.Test.YtdcenblblimkfaaGreatPk19
set_option linter.unusedSimpArgs false
set_option linter.unusedVariables false
set_option linter.unnecessarySimpa false
set_option linter.unusedSectionVars false
namespace Go.Proofs.YtdcenblblimkfaaGreat
open Go.RowKit

def renE (r:Nat→Nat):List (Nat × D)→List (Nat × D)
 | []=>[]
 | (t,d)::l=>(t,d.ren r)::renE r l
def renB (r:Nat→Nat):List (Nat × Option Box)→List (Nat × Option Box)
 | []=>[]
 | (k,B)::l=>(r k,B.map (Box.ren r))::renB r l
theorem renE_at {r:Nat→Nat}:∀ (l:List (Nat × D)) (t:Nat),lk (renE r l) t=(lk l t).ren r
 | [],_=>rfl
 | (s,d)::l,t=>by
  simp only [renE,lk]
  cases Nat.beq s t
  ·exact renE_at l t
  ·rfl
theorem renB_at {r s:Nat→Nat}:∀ (l:List (Nat × Option Box)),(∀ x,x∈l→s (r x.1)=x.1)→∀ k,hk (renB r l) k=if r (s k)=k then (hk l (s k)).map (Box.ren r) else none
 | [],_,k=>by simp [renB,hk]
 | (x,B)::l,h,k=>by
  have hx:s (r x)=x:=h (x,B) (by simp)
  have ih:=renB_at l (fun y hy=>h y (by simp [hy])) k
  simp only [renB,hk]
  by_cases q:r x=k
  ·subst q
   have e1:Nat.beq (r x) (r x)=true:=by simp
   have e2:Nat.beq x x=true:=by simp
   simp only [e1,hx,e2,if_true]
  ·rw [beq_ne q]
   simp only []
   rw [ih]
   by_cases q2:r (s k)=k
   ·rw [if_pos q2,if_pos q2]
    have:x≠s k:=fun e=>q (by rw [e];exact q2)
    rw [beq_ne this]
   ·rw [if_neg q2,if_neg q2]
open Classical in
noncomputable def nmR (r s:Nat→Nat) (i:Nm):Nm:=fun x=>if r (s x)=x then i (s x) else none
theorem Box.ren_nil {r:Nat→Nat} {B:Box} (h:B = .gone∨(∃ t m f,B = .arr t 0 m f∨B = .ice t 0 m f)∨∃ t t2 m2 n2 g,B = .mat t t2 0 0 m2 n2 g):B.ren r = .gone∨(∃ t m f,B.ren r = .arr t 0 m f∨B.ren r = .ice t 0 m f)∨∃ t t2 m2 n2 g,B.ren r = .mat t t2 0 0 m2 n2 g:=by
 rcases h with rfl | ⟨t,m,f,rfl | rfl⟩ | ⟨t,t2,m2,n2,g,rfl⟩
 ·exact .inl rfl
 ·exact .inr (.inl ⟨t,m,f,.inl rfl⟩)
 ·exact .inr (.inl ⟨t,m,f,.inr rfl⟩)
 ·exact .inr (.inr ⟨t,t2,m2,n2,g,rfl⟩)
section
variable {S:Cx} {env:List (Nat × D)} {box:List (Nat × Option Box)} {Z:Zn} {i:Nm} {a:Act} {w:World} {r s:Nat→Nat}
structure Two (r s:Nat→Nat) (box:List (Nat × Option Box)):Prop where
 low:∀ k,k<1000→r k=k
 back:∀ x,x∈box→s (r x.1)=x.1
theorem hk_mem:∀ {box:List (Nat × Option Box)} {k:Nat},hk box k≠none→∃ x,x∈box∧x.1=k
 | [],k,h=>absurd rfl h
 | (x,B)::l,k,h=>by
  simp only [hk] at h
  by_cases q:x=k
  ·exact ⟨(x,B),by simp,q⟩
  ·rw [beq_ne q] at h
   obtain ⟨y,h1,h2⟩:=hk_mem h
   exact ⟨y,by simp [h1],h2⟩
theorem Two.at (h:Two r s box) {k:Nat} (hk':hk box k≠none):s (r k)=k:=by
 obtain ⟨x,h1,rfl⟩:=hk_mem hk'
 exact h.back x h1
theorem Fits.alive (h:Fits S (lk env) (hk box) Z i a w) {k:Nat} {x:Option (Nat × Cp)} (e:i k=some x):hk box k≠none:=fun q=>by rw [h.nil k q] at e;cases e
theorem Fits.nmR_at (h:Fits S (lk env) (hk box) Z i a w) (hr:Two r s box) {k:Nat} {x:Option (Nat × Cp)} (e:i k=some x):nmR r s i (r k)=some x:=by
 have:=hr.at (h.alive e)
 unfold nmR
 rw [this,if_pos rfl];exact e
def mutsOf (H:Nat→Option Box) (i:Nm) (b:Nat):Prop:=∃ k B,H k=some B∧B.mut=true∧Foot B (i k) b
theorem Fits.now {E:Nat→D} {H:Nat→Option Box} (h:Fits S E H Z i a w):Fits { S with w1:=w,M1:=mutsOf H i,Z1:=Z } E H Z i a w:=
 { h with kept1:=Kept.refl _ _,zk1:=fun _ _ h=>h,box:=fun k B hB=>(h.box k B hB).imp (fun ⟨b,c,e1,e2,e3,e4,e5⟩=>⟨b,c,e1,e2,fun hm=>⟨(e3 hm).1,.inr ⟨k,B,hB,hm,.root e1⟩⟩,e4,e5⟩) id,foot:=fun k B b hB hm hf=>(fun f=>⟨f.1,f.2.1,f.2.2.1,.inr ⟨k,B,hB,hm,hf⟩⟩) (h.foot k B b hB hm hf) }
theorem Fits.round (h:Fits S (lk env) (hk box) Z i a w) (hr:Two r s box) {a2:Act} {E2:Nat→D} (hd:a2.defers=[]) (hs:a2.tmps.size=fsz S.N) (he:∀ t,Rep Z w i (a2.tmps.getD t undef) (E2 t)) :
  Fits { S with N:=fsz S.N,df:=[],i0:=nmR r s i,w1:=w,M1:=mutsOf (hk box) i,Z1:=Z } (fun t=>(E2 t).ren r) (hk (renB r box)) Z (nmR r s i) a2 w:=by
 have hat:=renB_at (r:=r) (s:=s) box hr.back
 have hH:∀ k B,hk (renB r box) k=some B→r (s k)=k∧∃ B0,hk box (s k)=some B0∧B=B0.ren r∧nmR r s i k=i (s k):=fun k B hB=>by
  rw [hat] at hB
  by_cases q:r (s k)=k
  ·rw [if_pos q] at hB
   cases e:hk box (s k) with
   | none=>rw [e] at hB;cases hB
   | some B0=>rw [e] at hB;cases hB;exact ⟨q,B0,rfl,rfl,by unfold nmR;rw [if_pos q]⟩
  ·rw [if_neg q] at hB;cases hB
 refine { defers:=⟨[],hd,List.nodup_nil,fun b hb=>by cases hb⟩,size:=hs.trans (fsz_fsz S.N).symm,kept:=h.kept,kept1:=Kept.refl _ _,zk1:=fun _ _ h=>h,zsub:=h.zsub,zOld:=h.zOld,zNew:=h.zNew,env:=fun t=>(he t).rename (fun k x e=>h.nmR_at hr e),box:=fun k B hB=>?_,foot:=fun k B b hB hm hf=>?_,nil:=fun k hk'=>?_,low:=fun k _=>rfl,inj:=fun k k' B B' b h1 h2 m1 m2 e1 e2=>?_ }
 ·obtain ⟨q,B0,g1,rfl,g3⟩:=hH k B hB
  rcases h.box _ B0 g1 with ⟨b,c,e1,e2,e3,e4,e5⟩ | ⟨e1,e2⟩
  ·refine .inl ⟨b,c,g3.trans e1,e2.imp id (fun ⟨p1,p2⟩=>⟨by rw [← q,hr.low _ p1];exact p1,p2⟩),fun hm=>?_,fun hi=>?_,e5.ren (fun k x e=>h.nmR_at hr e)⟩
   ·rw [Box.ren_mut] at hm
    exact ⟨(e3 hm).1,.inr ⟨_,_,g1,hm,.root e1⟩⟩
   ·rw [Box.ren_ice] at hi;exact e4 hi
  ·exact .inr ⟨g3.trans e1,Box.ren_nil e2⟩
 ·obtain ⟨q,B0,g1,rfl,g3⟩:=hH k B hB
  rw [Box.ren_mut] at hm
  have hf0:Foot B0 (i (s k)) b:=g3▸hf.unren
  have f:=h.foot _ B0 b g1 hm hf0
  exact ⟨f.1,f.2.1.imp id (fun ⟨p1,p2,c,p3⟩=>⟨by rw [← q,hr.low _ p1];exact p1,p2,c,g3.trans p3⟩),f.2.2.1,.inr ⟨_,_,g1,hm,hf0⟩⟩
 ·rw [hat] at hk'
  unfold nmR
  by_cases q:r (s k)=k
  ·rw [if_pos q] at hk' ⊢
   cases e:hk box (s k) with
   | none=>exact h.nil _ e
   | some B0=>rw [e] at hk';cases hk'
  ·rw [if_neg q]
 ·obtain ⟨q,B0,g1,rfl,g3⟩:=hH k B h1
  obtain ⟨q',B0',g1',rfl,g3'⟩:=hH k' B' h2
  rw [Box.ren_mut] at m1 m2
  rw [← q,← q',h.inj _ _ _ _ b g1 g1' m1 m2 (g3▸e1.unren) (g3'▸e2.unren)]
theorem Fits.other {E:Nat→D} {H:Nat→Option Box} (h:Fits S E H Z i a w) {l:Nat} {o:Obj} {w':World} (hl:w.heap[l]? = some o) (ho:∀ cs t f,o ≠ .cells cs t f) (hos:w'.os=w.os∧w'.tape=w.tape∧w'.output=w.output∧w'.heap.size=w.heap.size) (hoth:∀ b,b≠l→w'.heap[b]? = w.heap[b]?)
  (h0:S.w0.heap.size≤l) (h1:S.w1.heap.size≤l∨S.M1 l) (hz:∀ q,¬ S.Z1 q l) (hm:∀ ms:List Nat,a.defers=ms.map mark++S.df→(∀ b,b∈ms→Z false b∧w.heap[b]? = some (.deferred (some [])))→l ∉ ms) :
  Fits S E H (fun q b=>Z q b∧b≠l) i a w':=by
 obtain ⟨hos1,hos2,hos3,hos4⟩:=hos
 have hcl:∀ {b:Nat} {t:TypeId} {cs:Array Value},Bk w b t cs→b≠l:=fun hB e=>by subst e;unfold Bk at hB;rw [hl] at hB;cases hB;exact ho _ _ _ rfl
 have hmm:∀ q b p u,Z q b→w.cell? ⟨b,p,none⟩=some u→(Z q b∧b≠l)∧w'.cell? ⟨b,p,none⟩=some u:=fun q b p u hz hu=>by
  have:b≠l:=fun e=>by
   subst e
   simp only [World.cell?,hl] at hu
   cases o with
   | cells cs t f=>exact ho _ _ _ rfl
   | _=>cases hu
  exact ⟨⟨hz,this⟩,(World.cell?_of_block (w:=w) (a:=⟨b,p,none⟩) (hoth b this)).trans hu⟩
 obtain ⟨ms,d1,d2,d3⟩:=h.defers
 refine { defers:=⟨ms,d1,d2,fun b hb=>?_⟩,size:=h.size,kept:=⟨hos1.trans h.kept.os,hos2.trans h.kept.tape,hos3.trans h.kept.output,by rw [hos4];exact h.kept.size,fun b hb hM=>(hoth b (by omega)).trans (h.kept.block b hb hM)⟩,kept1:=⟨hos1.trans h.kept1.os,hos2.trans h.kept1.tape,hos3.trans h.kept1.output,by rw [hos4];exact h.kept1.size,fun b hb hM=>(hoth b (fun e=>by subst e;rcases h1 with q | q;omega;exact hM q)).trans (h.kept1.block b hb hM)⟩,zk1:=fun q b hb=>⟨h.zk1 q b hb,fun e=>hz q (e▸hb)⟩,zsub:=fun b hb=>⟨h.zsub b hb.1,hb.2⟩,zOld:=fun b hb=>⟨by rw [hos4];exact (h.zOld b hb.1).1,(h.zOld b hb.1).2⟩,zNew:=fun b hb=>h.zNew b hb.1,env:=fun t=>(h.env t).memC hmm,box:=fun k B hB=>?_,foot:=fun k B b hB hm' hf=>(fun f=>⟨by rw [hos4];exact f.1,f.2.1,fun hz'=>f.2.2.1 hz'.1,f.2.2.2⟩) (h.foot k B b hB hm' hf),nil:=h.nil,low:=h.low,inj:=h.inj }
 ·have hne:b≠l:=fun e=>hm ms d1 d3 (e▸hb)
  exact ⟨⟨(d3 b hb).1,hne⟩,(hoth b hne).trans (d3 b hb).2⟩
 ·rcases h.box k B hB with ⟨b,c,e1,e2,e3,e4,e5⟩ | q
  ·refine .inl ⟨b,c,e1,e2,fun hmu=>⟨fun hzz=>(e3 hmu).1 hzz.1,(e3 hmu).2⟩,fun hic=>⟨e4 hic,?_⟩,e5.memC (by rw [hos4];exact Nat.le_refl _) (fun hg=>?_) hmm⟩
   ·cases B<;>simp [Box.isIce] at hic
    obtain ⟨_,cs,hB,_⟩:=e5
    exact hcl hB
   ·intro x hf
    obtain ⟨t,cs,q⟩:=e5.footBk hg hf
    exact hoth x (hcl q)
  ·exact .inr q
theorem Fits.apart {E:Nat→D} {H:Nat→Option Box} (h:Fits S E H Z i a w) {n0:Nat} {w':World} (hos:w'.os=w.os∧w'.tape=w.tape∧w'.output=w.output∧w.heap.size≤w'.heap.size) (hk':∀ b,b<w.heap.size→mutsOf H i b∨Z true b∨b<n0→w'.heap[b]? = w.heap[b]?) (h0:S.w0.heap.size≤n0) (h1:S.w1.heap.size≤n0):Fits S E H Z i a w':=by
 have hz:∀ q b,Z q b→w'.heap[b]? = w.heap[b]?:=fun q b hb=>by
  have hbt:Z true b:=by cases q;exact h.zsub b hb;exact hb
  exact hk' b (h.zOld b hbt).1 (.inr (.inl hbt))
 have hs0:=h.kept.size
 have hs1:=h.kept1.size
 obtain ⟨ms,d1,d2,d3⟩:=h.defers
 refine { defers:=⟨ms,d1,d2,fun b hb=>⟨(d3 b hb).1,(hz _ b (d3 b hb).1).trans (d3 b hb).2⟩⟩,size:=h.size,kept:=⟨hos.1.trans h.kept.os,hos.2.1.trans h.kept.tape,hos.2.2.1.trans h.kept.output,Nat.le_trans hs0 hos.2.2.2,fun b hb hM=>(hk' b (by omega) (.inr (.inr (by omega)))).trans (h.kept.block b hb hM)⟩,kept1:=⟨hos.1.trans h.kept1.os,hos.2.1.trans h.kept1.tape,hos.2.2.1.trans h.kept1.output,Nat.le_trans hs1 hos.2.2.2,fun b hb hM=>(hk' b (by omega) (.inr (.inr (by omega)))).trans (h.kept1.block b hb hM)⟩,zk1:=h.zk1,zsub:=h.zsub,zOld:=fun b hb=>⟨Nat.lt_of_lt_of_le (h.zOld b hb).1 hos.2.2.2,(h.zOld b hb).2⟩,zNew:=h.zNew,env:=fun t=>(h.env t).mem (fun q b hb=>⟨hb,hz q b hb⟩),box:=fun k B hB=>?_,foot:=fun k B b hB hm hf=>(fun f=>⟨Nat.lt_of_lt_of_le f.1 hos.2.2.2,f.2⟩) (h.foot k B b hB hm hf),nil:=h.nil,low:=h.low,inj:=h.inj }
 rcases h.box k B hB with ⟨b,c,e1,e2,e3,e4,e5⟩ | q
 ·refine .inl ⟨b,c,e1,e2,e3,e4,?_⟩
  by_cases hm:B.mut=true
  ·exact e5.mem hos.2.2.2 (fun x hx=>hk' x (e5.footLt hx) (.inl ⟨k,B,hB,hm,e1▸hx⟩)) (fun q b hb=>⟨hb,hz q b hb⟩)
  ·cases B with
   | gone=>exact Nat.lt_of_lt_of_le e5 hos.2.2.2
   | ice t n m f=>exact e5.imp fun _ e5=>ArrAt.mem e5 (hz _ _ (e4 rfl)) (fun q b hb=>⟨hb,hz q b hb⟩)
   | lit=>exact absurd rfl hm
   | arr=>exact absurd rfl hm
   | mat=>exact absurd rfl hm
 ·exact .inr q
theorem Fits.more {E:Nat→D} {H:Nat→Option Box} (h:Fits S E H Z i a w) {Zx:Nat→Prop} (hx:∀ b,Zx b→S.w0.heap.size≤b∧b<w.heap.size∧¬ mutsOf H i b):Fits S E H (fun q b=>Z q b∨Zx b) i a w:=by
 have hm:∀ o x,Z o x→(Z o x∨Zx x)∧w.heap[x]? = w.heap[x]?:=fun o x hz=>⟨.inl hz,rfl⟩
 have hf':∀ k B b,H k=some B→B.mut=true→Foot B (i k) b→b<w.heap.size∧(S.w0.heap.size≤b∨(k<1000∧S.M b∧∃ c,i k=some (some (b,c))))∧¬ (Z true b∨Zx b)∧(S.w1.heap.size≤b∨S.M1 b):=fun k B b hB hmu hf=>by
  have f:=h.foot k B b hB hmu hf
  exact ⟨f.1,f.2.1,fun hz=>hz.elim f.2.2.1 (fun q=>(hx b q).2.2 ⟨k,B,hB,hmu,hf⟩),f.2.2.2⟩
 obtain ⟨ms,d1,d2,d3⟩:=h.defers
 refine { h with defers:=⟨ms,d1,d2,fun b hb=>⟨.inl (d3 b hb).1,(d3 b hb).2⟩⟩,zk1:=fun o b hb=>.inl (h.zk1 o b hb),zsub:=fun b hb=>hb.imp (h.zsub b) id,zOld:=fun b hb=>?_,zNew:=fun b hb=>hb.elim (h.zNew b) (fun q=>(hx b q).1),env:=fun t=>(h.env t).mem hm,box:=fun k B hB=>(h.box k B hB).imp (fun ⟨b,c,e1,e2,e3,e4,e5⟩=>⟨b,c,e1,e2,fun hmu=>⟨(hf' k B b hB hmu (.root e1)).2.2.1,(e3 hmu).2⟩,fun hi=>.inl (e4 hi),e5.mem (Nat.le_refl _) (fun _ _=>rfl) hm⟩) id,foot:=hf' }
 rcases hb with hb | hb
 ·exact h.zOld b hb
 ·exact ⟨(hx b hb).2.1,fun q=>by have:=(hx b hb).1;omega⟩
theorem Fits.over (h:Fits S (lk env) (hk box) Z i a w) (hr:Two r s box) {S3:Cx} {E3:Nat→D} {boxR:List (Nat × Option Box)} {Z3:Zn} {i3:Nm} {a3:Act} {w3:World} (h3:Fits S3 E3 (hk boxR) Z3 i3 a3 w3)
  (c0:S3.w0=S.w0) (cM:S3.M=S.M) (cZ:S3.Z0=S.Z0) (ci:S3.i0=nmR r s i) (hz:∀ q b,Z q b→Z3 q b) {M2:Nat→Prop} (hK:Kept M2 w w3) (hM2:∀ b,M2 b→mutsOf (hk box) i b∨(S.w1.heap.size≤b∧¬ Z true b)) (h1:S.w1.heap.size≤S3.w1.heap.size) (hM1:∀ b,S3.M1 b→S.w1.heap.size≤b∨S.M1 b)
  (hB:∀ x,x∈boxR→r (s x.1)=x.1) (hfr:envFree (fun k=>Nat.blt (r k) 1000 && Nat.beq (s (r k)) k) env=true):Fits S (lk env) (hk (renB s boxR)) Z3 (nmR s r i3) a w3:=by
 have hat:=renB_at (r:=s) (s:=r) boxR hB
 have hH:∀ k B,hk (renB s boxR) k=some B→s (r k)=k∧∃ B0,hk boxR (r k)=some B0∧B=B0.ren s∧nmR s r i3 k=i3 (r k):=fun k B hB=>by
  rw [hat] at hB
  by_cases q:s (r k)=k
  ·rw [if_pos q] at hB
   cases e:hk boxR (r k) with
   | none=>rw [e] at hB;cases hB
   | some B0=>rw [e] at hB;cases hB;exact ⟨q,B0,rfl,rfl,by unfold nmR;rw [if_pos q]⟩
  ·rw [if_neg q] at hB;cases hB
 have hi3:∀ k x,i3 k=some x→nmR s r i3 (s k)=some x:=fun k x e=>by
  have:hk boxR k≠none:=fun q=>by rw [h3.nil k q] at e;cases e
  obtain ⟨y,y1,rfl⟩:=hk_mem this
  have:=hB y y1
  unfold nmR
  rw [this,if_pos rfl];exact e
 have hlow3:∀ k,k<1000→i3 k=nmR r s i k:=fun k hk'=>by rw [h3.low k hk',ci]
 have hold:∀ q b,Z q b→w3.heap[b]? = w.heap[b]?:=fun q b hb=>by
  have hbt:Z true b:=by cases q;exact h.zsub b hb;exact hb
  refine hK.block b (h.zOld b hbt).1 (fun hM=>?_)
  rcases hM2 b hM with ⟨k,B,g1,g2,g3⟩ | q
  ·exact (h.foot k B b g1 g2 g3).2.2.1 hbt
  ·exact q.2 hbt
 obtain ⟨ms,d1,d2,d3⟩:=h.defers
 refine { defers:=⟨ms,d1,d2,fun b hb=>⟨hz _ _ (d3 b hb).1,(hold _ b (d3 b hb).1).trans (d3 b hb).2⟩⟩,size:=h.size,kept:=by rw [← c0,← cM];exact h3.kept,kept1:=⟨hK.os.trans h.kept1.os,hK.tape.trans h.kept1.tape,hK.output.trans h.kept1.output,Nat.le_trans h.kept1.size hK.size,fun b hb hM=>?_⟩,zk1:=fun q b hb=>hz q b (h.zk1 q b hb),zsub:=h3.zsub,zOld:=fun b hb=>⟨(h3.zOld b hb).1,fun q=>by rw [← cZ];exact (h3.zOld b hb).2 (by rw [c0];exact q)⟩,zNew:=fun b hb=>by rw [← c0];exact h3.zNew b hb,env:=fun t=>?_,box:=fun k B hB'=>?_,foot:=fun k B b hB' hm hf=>?_,nil:=fun k hk'=>?_,low:=fun k hk'=>?_,inj:=fun k k' B B' b h1 h2 m1 m2 e1 e2=>?_ }
 ·have hs1:=h.kept1.size
  refine (hK.block b (by omega) (fun hM'=>?_)).trans (h.kept1.block b hb hM)
  rcases hM2 b hM' with ⟨k,B,g1,g2,g3⟩ | q
  ·rcases (h.foot k B b g1 g2 g3).2.2.2 with q | q
   ·omega
   ·exact hM q
  ·omega
 ·refine ((h.env t).mem (Z':=Z3) (w':=w3) (fun q b hb=>⟨hz q b hb,hold q b hb⟩)).nm (envFree_at hfr t) (fun k x hp e=>?_)
  simp only [Bool.and_eq_true] at hp
  have hp1:r k<1000:=by simpa using hp.1
  have hp2:s (r k)=k:=by simpa using hp.2
  unfold nmR
  rw [if_pos hp2,hlow3 _ hp1]
  exact h.nmR_at hr e
 ·obtain ⟨q,B0,g1,rfl,g3⟩:=hH k B hB'
  rcases h3.box _ B0 g1 with ⟨b,c,e1,e2,e3,e4,e5⟩ | ⟨e1,e2⟩
  ·refine .inl ⟨b,c,g3.trans e1,?_,fun hm=>?_,fun hi=>?_,e5.ren hi3⟩
   ·rw [c0,cM] at e2
    rcases e2 with e2 | ⟨e2,e2'⟩
    ·exact .inl e2
    ·have hik:i k=some (some (b,c)):=by
      rw [hlow3 _ e2] at e1
      unfold nmR at e1
      rw [q,if_pos rfl] at e1
      exact e1
     have hal:=h.alive hik
     cases e:hk box k with
     | none=>exact absurd e hal
     | some B1=>
      rcases h.box k B1 e with ⟨b',c',f1,f2,_⟩ | ⟨f1,_⟩
      ·rw [hik] at f1;cases f1;exact f2
      ·rw [hik] at f1;cases f1
   ·rw [Box.ren_mut] at hm
    refine ⟨(e3 hm).1,?_⟩
    rcases (e3 hm).2 with q2 | q2
    ·exact .inl (Nat.le_trans h1 q2)
    ·exact hM1 b q2
   ·rw [Box.ren_ice] at hi;exact e4 hi
  ·exact .inr ⟨g3.trans e1,Box.ren_nil e2⟩
 ·obtain ⟨q,B0,g1,rfl,g3⟩:=hH k B hB'
  rw [Box.ren_mut] at hm
  have hf0:Foot B0 (i3 (r k)) b:=g3▸hf.unren
  have f:=h3.foot _ B0 b g1 hm hf0
  refine ⟨f.1,?_,f.2.2.1,?_⟩
  ·have f2:=f.2.1
   rw [c0,cM] at f2
   rcases f2 with f2 | ⟨f2,f2',c,e1⟩
   ·exact .inl f2
   ·have hik:i k=some (some (b,c)):=by
     rw [hlow3 _ f2] at e1
     unfold nmR at e1
     rw [q,if_pos rfl] at e1
     exact e1
    cases e:hk box k with
    | none=>exact absurd e (h.alive hik)
    | some B1=>
     rcases h.box k B1 e with ⟨b',c',p1,p2,_⟩ | ⟨p1,_⟩
     ·rw [hik] at p1;cases p1
      exact p2.imp id (fun ⟨x,y⟩=>⟨x,y,c,g3.trans e1⟩)
     ·rw [hik] at p1;cases p1
  ·rcases f.2.2.2 with q2 | q2
   ·exact .inl (Nat.le_trans h1 q2)
   ·exact hM1 b q2
 ·rw [hat] at hk'
  unfold nmR
  by_cases q:s (r k)=k
  ·rw [if_pos q] at hk' ⊢
   cases e:hk boxR (r k) with
   | none=>exact h3.nil _ e
   | some B0=>rw [e] at hk';cases hk'
  ·rw [if_neg q]
 ·rw [← h.low k hk']
  unfold nmR
  rw [hr.low k hk',hlow3 k hk']
  unfold nmR
  by_cases q:s k=k
  ·rw [if_pos q,q,if_pos (hr.low k hk')]
  ·rw [if_neg q]
   cases e:i k with
   | none=>rfl
   | some x=>
    have:=hr.at (h.alive e)
    rw [hr.low k hk'] at this
    exact absurd this q
 ·obtain ⟨q,B0,g1,rfl,g3⟩:=hH k B h1
  obtain ⟨q',B0',g1',rfl,g3'⟩:=hH k' B' h2
  rw [Box.ren_mut] at m1 m2
  rw [← q,← q',h3.inj _ _ _ _ b g1 g1' m1 m2 (g3▸e1.unren) (g3'▸e2.unren)]
end


abbrev Gst:=Nat→(Nat→Prop)→(Nat→Prop)→World→Prop
structure JOk (n0:Nat) (J:Gst):Prop where
 stable:∀ {k C Z W W'},J k C Z W→W'.os=W.os∧W'.tape=W.tape∧W'.output=W.output∧W.heap.size≤W'.heap.size→(∀ b,b<W.heap.size→C b∨Z b∨b<n0→W'.heap[b]? = W.heap[b]?)→J k C Z W'
 lt:∀ {k C Z W},J k C Z W→(∀ b,C b→b<W.heap.size∧¬ Z b)∧∀ b,Z b→b<W.heap.size
def ItrD (P:Program) (f:FuncId) (caps:List D) (xs:List (List D)):Prop:=
 ∀ (l:Nat) (C0 Z0:Nat→Prop) (W0:World) (vs:List Value) (J Jx:Gst),JOk W0.heap.size J→JOk W0.heap.size Jx→J 0 C0 Z0 W0→RepsI (fun o b=>o=true∧Z0 b) W0 noN vs caps →
  (∀ k C Z W x us Zx,xs[k]? = some x→J k C Z W→(∀ b,Zx b→W0.heap.size≤b∧b<W.heap.size∧¬ C b)→RepsI (Z2 Z Zx) W noN us x→W0.heap.size≤W.heap.size →
   YieldAt (Fw none) 0 P l us.toArray W fun e W'=>(e = .returned (.bool true)∧∃ C' Z',J (k+1) C' Z' W'∧Kept C W W'∧(∀ b,C' b→C b∨W.heap.size≤b)∧(∀ b,Z b∨Zx b→Z' b))∨(e = .returned (.bool false)∧∃ k' C' Z',Jx k' C' Z' W')) →
  CallsIn (Fw none) 0 P f (#[.func (.yield l) #[] #[]]++vs.toArray) W0 fun e W'=>(∃ v,e = .returned v)∧((∃ C Z,J xs.length C Z W')∨∃ k C Z,Jx k C Z W')
def zipE:List Nat→List D→List (Nat × D)
 | t::ts,d::ds=>(t,d)::zipE ts ds
 | _,_=>[]
theorem zip_put {Z:Zn} {w:World} {i:Nm}:∀ (ps:List Nat) (us:List Value) (x:List D) (tm:Array Value) (E:List (Nat × D)),us.length=ps.length→x.length=ps.length→(∀ t,t∈ps→t<tm.size)→ps.Nodup→(∀ j,j<x.length→Rep Z w i (us.getD j undef) (dl x j))→(∀ t,Rep Z w i (tm.getD t undef) (lk E t)) →
  ∀ t,Rep Z w i (((ps.zip us).foldl (fun a p=>a.setIfInBounds p.1 p.2) tm).getD t undef) (lk (zipE ps x++E) t)
 | [],us,x,tm,E,_,_,_,_,_,hE=>fun t=>by cases x<;>simpa [zipE] using hE t
 | p::ps,[],x,tm,E,h,_,_,_,_,_=>by cases h
 | p::ps,u::us,[],tm,E,_,h,_,_,_,_=>by cases h
 | p::ps,u::us,d::x,tm,E,h1,h2,h3,h4,h5,hE=>fun t=>by
  have hp:p<tm.size:=h3 p (by simp)
  have hd:=h5 0 (by simp)
  have ih:=zip_put (Z:=Z) (w:=w) (i:=i) ps us x (tm.setIfInBounds p u) ((p,d)::E) (by simpa using h1) (by simpa using h2) (fun t ht=>by simp;exact h3 t (by simp [ht])) (List.nodup_cons.1 h4).2 (fun j hj=>h5 (j+1) (by simpa using hj)) (fun t=>by
   rw [getD_put hp]
   simp only [lk]
   by_cases q:p=t
   ·subst q;simp;exact hd
   ·rw [if_neg q,beq_ne q];exact hE t) t
  simp only [List.zip_cons_cons,List.foldl_cons]
  have hsw:∀ (ps:List Nat) (x:List D) (t:Nat),p ∉ ps→lk (zipE ps x++(p,d)::E) t=lk ((p,d)::(zipE ps x++E)) t:=by
   intro ps
   induction ps with
   | nil=>intro x t _;cases x<;>rfl
   | cons q ps ih2=>
    intro x t hq
    cases x with
    | nil=>rfl
    | cons d' x=>
     simp only [zipE,List.cons_append,lk]
     rw [ih2 x t (fun h=>hq (by simp [h]))]
     simp only [lk]
     by_cases q1:q=t
     ·subst q1
      have:p≠q:=fun e=>hq (by simp [e])
      rw [beq_ne this]
     ·rw [beq_ne q1]
  rw [hsw ps x t (List.nodup_cons.1 h4).1] at ih
  exact ih
theorem foldl_size:∀ (l:List (Nat × Value)) (tm:Array Value),(l.foldl (fun a p=>a.setIfInBounds p.1 p.2) tm).size=tm.size
 | [],_=>rfl
 | p::l,tm=>by simp only [List.foldl_cons];rw [foldl_size l];simp
section
variable {P:Program} {N:Nat} {Q:Post} {env:List (Nat × D)} {box:List (Nat × Option Box)} {r s:Nat→Nat}
theorem mutsOf_bk {S:Cx} {E:Nat→D} {H:Nat→Option Box} {Z:Zn} {i:Nm} {a:Act} {w:World} (h:Fits S E H Z i a w) {b:Nat} (hm:mutsOf H i b):b<w.heap.size∧¬ Z true b∧(S.w1.heap.size≤b∨S.M1 b)∧∃ t cs,Bk w b t cs:=by
 obtain ⟨k,B,g1,g2,g3⟩:=hm
 have f:=h.foot k B b g1 g2 g3
 refine ⟨f.1,f.2.2.1,f.2.2.2,?_⟩
 rcases h.box k B g1 with ⟨b',c',e1,_,e3,_,e5⟩ | ⟨e1,_⟩
 ·exact e5.footBk (fun e=>by subst e;cases g2) (e1▸g3)
 ·obtain ⟨_,_,e,_⟩:=g3
  rw [e1] at e;cases e
theorem wpIn_code {c:Code} {K:Exit→Act→World→Prop} {a:Act} {w:World} (hc:c = .ret∨∃ id,c = .exit id) (h:K (exitOf c) a w):c.wpIn (Fw none) 0 P K a w:=by
 rcases hc with rfl | ⟨id,rfl⟩
 ·exact wpIn_ret h
 ·exact wpIn_exit h
theorem muts_back {bx:List (Nat × Option Box)} (h:∀ x,x∈bx→r (s x.1)=x.1) {i3:Nm} {b:Nat} (hm:mutsOf (hk (renB s bx)) (nmR s r i3) b):mutsOf (hk bx) i3 b:=by
 obtain ⟨k,B,g1,g2,g3⟩:=hm
 rw [renB_at (r:=s) (s:=r) bx h] at g1
 by_cases q:s (r k)=k
 ·rw [if_pos q] at g1
  cases e:hk bx (r k) with
  | none=>rw [e] at g1;cases g1
  | some B0=>
   rw [e] at g1;cases g1
   rw [Box.ren_mut] at g2
   unfold nmR at g3
   rw [if_pos q] at g3
   exact ⟨_,B0,e,g2,g3.unren⟩
 ·rw [if_neg q] at g1;cases g1
theorem renB_mem {bx:List (Nat × Option Box)}:∀ {x:Nat × Option Box},x∈renB s bx→∃ y,y∈bx∧x.1=s y.1:=by
 induction bx with
 | nil=>intro x h;cases h
 | cons y l ih=>
  intro x h
  simp only [renB,List.mem_cons] at h
  rcases h with rfl | h
  ·exact ⟨y,by simp,rfl⟩
  ·obtain ⟨z,z1,z2⟩:=ih h
   exact ⟨z,by simp [z1],z2⟩
theorem mark_inj {ms ms':List Nat} {df:List Deferred} (h:ms.map mark++df=ms'.map mark++df):ms=ms':=by
 have:=List.append_cancel_right h
 exact List.map_inj_right (fun a b e=>by simpa [mark] using e) |>.1 this
theorem Fits.addmark {S:Cx} {E:Nat→D} {H:Nat→Option Box} {Z:Zn} {i:Nm} {a:Act} {w:World} (h:Fits S E H Z i a w) {b:Nat} (hb:w.heap[b]? = some (.deferred (some []))) (hz:¬ Z true b) (h0:S.w0.heap.size≤b):Fits S E H (fun q x=>Z q x∨x=b) i { a with defers:={ target:=.collected b,args:=#[] }::a.defers } w:=by
 have h1:=h.more (Zx:=fun x=>x=b) (fun x e=>by
  subst e
  refine ⟨h0,(Array.getElem?_eq_some_iff.1 hb).1,fun hm=>?_⟩
  obtain ⟨_,_,_,t,cs,q⟩:=mutsOf_bk h hm
  unfold Bk at q;rw [hb] at q;cases q)
 obtain ⟨ms,d1,d2,d3⟩:=h.defers
 exact { h1 with defers:=⟨b::ms,by simp [d1,mark],List.nodup_cons.2 ⟨fun q=>hz (h.zsub b (d3 b q).1),d2⟩,fun x hx=>by
  rcases List.mem_cons.1 hx with rfl | hx
  ·exact ⟨.inr rfl,hb⟩
  ·exact ⟨.inl (d3 x hx).1,(d3 x hx).2⟩⟩ }
theorem awp_range {α : Type} {g : Operand} {ps : Array Tmp} {assign body : Code} {f : FuncId} {caps0 caps : List D} {xs : List (List D)} {fn : Func} [hf : FI P f fn] (hit : ItrD P f caps xs) (hg : Opd (lk env) g (.clo f caps0)) (hcv : Cvt (.clo f caps0) (.clo f caps)) [hod : OldDL caps] (hno : D.free.freeL (fun _ => false) caps0 = true)
  (B : Nat → List (Nat × Option Box)) (BX : α → List (Nat × Option Box)) (ok : α → Prop) (ex : α → Code) (F : Nat → Prop) (hF00 : F 0) (hex : ∀ y, ok y → ex y = .ret ∨ ∃ id, ex y = .exit id)
  (hps : (ps.toList.all fun t => Nat.blt t (fsz N)) = true) (hnd : ps.toList.Nodup) (hlen : ∀ x, x ∈ xs → x.length = ps.size)
  (hr : Two r s box) (hB : ∀ k x, x ∈ B k → r (s x.1) = x.1) (hBX : ∀ y x, x ∈ BX y → r (s x.1) = x.1) (hBB : ∀ k, renB r (renB s (B k)) = B k)
  (hfr : envFree (fun k => Nat.blt (r k) 1000 && Nat.beq (s (r k)) k) env = true)
  (h0 : Sub (lk env) (hk box) (lk env) (hk (renB s (B 0))))
  (hround : ∀ k x l, F k → xs[k]? = some x → AWp (some l) P (fsz N) assign (lk (renE r (zipE ps.toList x ++ env))) (hk (B k)) (AThen (fun E1 H1 => AWp (some l) P (fsz N) body E1 H1 (RndP (F (k + 1)) (B (k + 1)) BX ok ex)) (fun _ _ _ => False)))
  (hdone : F xs.length → Q .normal (lk env) (hk (renB s (B xs.length)))) (hstop : ∀ y, ok y → Q (exitOf (ex y)) (lk env) (hk (renB s (BX y)))) : AWp none P N (.rangeFunc g ps assign body) (lk env) (hk box) Q := fun S a w hN hR => by
 obtain ⟨Z, i, hF⟩ := h0 S a w hR
 obtain ⟨lb, hgv, hlb⟩ : ∃ vs : List Value, a.eval g = .func (.func f) #[] vs.toArray ∧ RepsI (fun o b => o = true ∧ Z true b) w noN vs caps := by
  have h1 := hF.opd hg
  have h2 : Rep Z w noN (a.eval g) (.clo f caps0) := h1.nm (p := fun _ => false) (by simpa [D.free] using hno) (fun k x hk => by cases hk)
  have h3 := hcv.cv hF.zsub h2
  generalize a.eval g = v at h3 ⊢
  cases h3 with
  | clo _ _ vs _ hl hr => exact ⟨vs, rfl, hl, fun j hj => (hod.od j).od (fun b hb => ⟨rfl, hb⟩) (hr j hj)⟩
 refine wpIn_rangeFunc ?_
 intro fnid _
 obtain ⟨rec, hrec⟩ : ∃ rec : LoopState → Option Code → Loop, rec = fun st pe => { state := st, pending := pe, fn := fnid, tmps := a.tmps, params := ps, assign, body, defers := w.heap.size } := ⟨_, rfl⟩
 obtain ⟨W1, hW1⟩ : ∃ W1, (w.alloc (.deferred (some []))).alloc (.loop (rec .ready none)) = W1 := ⟨_, rfl⟩
 have hs1 : W1.heap.size = w.heap.size + 2 := by rw [← hW1]; simp
 have hold1 : ∀ b, b < w.heap.size → W1.heap[b]? = w.heap[b]? := fun b hb => by rw [← hW1]; exact (Below.heap_alloc _ _ _ (by simp; omega)).trans (Below.heap_alloc _ _ _ hb)
 have hL1 : W1.heap[w.heap.size + 1]? = some (.loop (rec .ready none)) := by
  rw [← hW1]; have := World.alloc_heap_new (w.alloc (.deferred (some []))) (.loop (rec .ready none)); rwa [World.size_alloc] at this
 have hK1 : W1.heap[w.heap.size]? = some (.deferred (some [])) := by
  rw [← hW1]; exact (Below.heap_alloc _ _ _ (by simp)).trans (World.alloc_heap_new w _)
 have hF1 : Fits S (lk env) (hk (renB s (B 0))) Z i a W1 := hF.grown (w' := W1) (by rw [← hW1]; exact ⟨rfl, rfl, rfl, by simp; omega⟩) hold1 (fun _ _ h => h) (fun b hb => .inl hb) (fun b hb => ⟨hF.zsub b hb, hF.zNew b hb⟩)
 have hw0 : S.w0.heap.size ≤ w.heap.size := hF.kept.size
 have hw1 : S.w1.heap.size ≤ w.heap.size := hF.kept1.size
 obtain ⟨D, hD⟩ : ∃ D, D = w.heap.size := ⟨_, rfl⟩
 obtain ⟨l, hl⟩ : ∃ l, l = w.heap.size + 1 := ⟨_, rfl⟩
 have hlz1 : ∀ q b, S.Z1 q b → b < w.heap.size := fun q b hb => by
  have := hF.zk1 q b hb
  exact (hF.zOld b (by cases q; exact hF.zsub b this; exact this)).1
 -- what holds between two rounds
 let St : Option Code → List (Nat × Option Box) → (Nat → Prop) → (Nat → Prop) → World → Prop := fun pe bx C Zc W => W.heap[l]? = some (.loop (rec (if pe.isNone then .ready else .done) pe)) ∧ W.heap[D]? = some (.deferred (some [])) ∧ ∃ Zn i, Fits S (lk env) (hk bx) Zn i a W ∧ ¬ Zn true l ∧ ¬ Zn true D ∧ (∀ b, C b ↔ mutsOf (hk bx) i b ∨ b = l ∨ b = D) ∧ ∀ b, Zc b ↔ Zn true b
 have stOk : ∀ {pe bx C Zc W}, St pe bx C Zc W → (∀ b, C b → b < W.heap.size ∧ ¬ Zc b) ∧ ∀ b, Zc b → b < W.heap.size := fun {pe bx C Zc W} ⟨h1, h2, Zn, i, h3, h4, h5, h6, h7⟩ => by
  refine ⟨fun b hb => ?_, fun b hb => (h3.zOld b ((h7 b).1 hb)).1⟩
  rw [h7]
  rcases (h6 b).1 hb with q | rfl | rfl
  ·exact ⟨(mutsOf_bk h3 q).1, (mutsOf_bk h3 q).2.1⟩
  ·exact ⟨(Array.getElem?_eq_some_iff.1 h1).1, h4⟩
  ·exact ⟨(Array.getElem?_eq_some_iff.1 h2).1, h5⟩
 have stSt : ∀ {pe bx C Zc W W'}, St pe bx C Zc W → W'.os = W.os ∧ W'.tape = W.tape ∧ W'.output = W.output ∧ W.heap.size ≤ W'.heap.size → (∀ b, b < W.heap.size → C b ∨ Zc b ∨ b < W1.heap.size → W'.heap[b]? = W.heap[b]?) → St pe bx C Zc W' := fun {pe bx C Zc W W'} ⟨h1, h2, Zn, i, h3, h4, h5, h6, h7⟩ hos hk' =>
  ⟨(hk' l (Array.getElem?_eq_some_iff.1 h1).1 (.inl ((h6 l).2 (.inr (.inl rfl))))).trans h1, (hk' D (Array.getElem?_eq_some_iff.1 h2).1 (.inl ((h6 D).2 (.inr (.inr rfl))))).trans h2, Zn, i,
   h3.apart (n0 := W1.heap.size) hos (fun b hb hc => hk' b hb (by rcases hc with q | q | q; exact .inl ((h6 b).2 (.inl q)); exact .inr (.inl ((h7 b).2 q)); exact .inr (.inr q))) (by omega) (by omega), h4, h5, h6, h7⟩
 refine ⟨l, [{ target := .collected D, args := #[] }], W1, { target := .fn (.func f) lb.toArray, args := #[.func (.yield l) #[] #[]] }, W1, f, #[.func (.yield l) #[] #[]] ++ lb.toArray, W1, ?_, ?_, fun _ _ => trivial, ?_, fun h => (by cases h), ?_⟩
 ·rw [← hW1, hrec, hD, hl]; exact run_enterLoop_outer _ _ _ _ _
 ·simp only [resolve, hgv]
  simp [go_sem]
 ·simp [invoke, go_sem, hf.enters]
 ·have hl0 : ¬ Z true l := fun hz => by have := (hF.zOld l hz).1; omega
  have hD0 : ¬ Z true D := fun hz => by have := (hF.zOld D hz).1; omega
  refine (hit l (fun b => mutsOf (hk (renB s (B 0))) i b ∨ b = l ∨ b = D) (Z true) W1 lb (fun k C Zc W => F k ∧ St none (renB s (B k)) C Zc W) (fun _ C Zc W => ∃ y, ok y ∧ St (some (ex y)) (renB s (BX y)) C Zc W) ⟨fun h a b => ⟨h.1, stSt h.2 a b⟩, fun h => stOk h.2⟩ ⟨fun ⟨y, hy, h⟩ a b => ⟨y, hy, stSt h a b⟩, fun ⟨y, _, h⟩ => stOk h⟩
   ⟨hF00, hl ▸ hL1, hD ▸ hK1, Z, i, hF1, hl0, hD0, fun _ => Iff.rfl, fun _ => Iff.rfl⟩ ⟨hlb.1, fun j hj => (hlb.2 j hj).mem (fun q b hb => ⟨hb, hold1 b (hF.zOld b hb.2).1⟩)⟩ ?_).mono ?_
  ·intro k C Zc W x us Zx hx ⟨hFk, g1, g2, Zn, i', g3, g4, g5, g6, g7⟩ hZx hus hsz
   replace g1 : W.heap[l]? = some (.loop (rec .ready none)) := g1
   have F1 := g3.more (Zx := Zx) (fun b hb => ⟨by have := (hZx b hb).1; omega, (hZx b hb).2.1, fun hm => (hZx b hb).2.2 ((g6 b).2 (.inl hm))⟩)
   have hxl := hlen x (List.mem_of_getElem? hx)
   have hul : us.length = ps.toList.length := by rw [hus.1, hxl]; simp
   have hlt : l < W.heap.size := (Array.getElem?_eq_some_iff.1 g1).1
   have hDt : D < W.heap.size := (Array.getElem?_eq_some_iff.1 g2).1
   have hlD : l ≠ D := by omega
   have hzx : ∀ b, Zx b → b ≠ l ∧ b ≠ D := fun b hb => ⟨fun e => (hZx b hb).2.2 ((g6 b).2 (.inr (.inl e))), fun e => (hZx b hb).2.2 ((g6 b).2 (.inr (.inr e)))⟩
   have hnl : ∀ q, ¬ (Zn q l ∨ Zx l) := fun q hz => hz.elim (fun h => g4 (by cases q; exact g3.zsub l h; exact h)) (fun h => (hzx l h).1 rfl)
   have hnD : ∀ q, ¬ (Zn q D ∨ Zx D) := fun q hz => hz.elim (fun h => g5 (by cases q; exact g3.zsub D h; exact h)) (fun h => (hzx D h).2 rfl)
   have hnml : ¬ mutsOf (hk (renB s (B k))) i' l := fun hm => by obtain ⟨_, _, _, t, cs, q⟩ := mutsOf_bk F1 hm; unfold Bk at q; rw [g1] at q; cases q
   have hnmD : ¬ mutsOf (hk (renB s (B k))) i' D := fun hm => by obtain ⟨_, _, _, t, cs, q⟩ := mutsOf_bk F1 hm; unfold Bk at q; rw [g2] at q; cases q
   have hy := run_yield (P := P) (args := us.toArray) g1 (by rw [hrec]; simp; simpa using hul)
   obtain ⟨tm, htm⟩ : ∃ tm, ((rec .ready none).params.zip us.toArray).foldl (fun tmps (t, a) => tmps.setIfInBounds t a) (rec .ready none).tmps = tm := ⟨_, rfl⟩
   have htm2 : (ps.toList.zip us).foldl (fun a p => a.setIfInBounds p.1 p.2) a.tmps = tm := by
    rw [← htm, hrec, ← Array.foldl_toList]
    simp
   have htwo : Two r s (renB s (B k)) := ⟨hr.low, fun y hy => by
    obtain ⟨z, z1, z2⟩ := renB_mem hy
    rw [z2, hB k z z1]⟩
   have F2 := F1.round (a2 := { tmps := tm, defers := [] }) (E2 := lk (zipE ps.toList x ++ env)) htwo rfl (by show tm.size = _; rw [← htm2, foldl_size]; exact F1.size) (fun t => by
    show Rep _ _ _ (tm.getD t undef) _
    rw [← htm2]
    refine zip_put ps.toList us x a.tmps env hul (by simpa using hxl) (fun t ht => ?_) hnd (fun j hj => ?_) F1.env t
    ·have := List.all_eq_true.1 hps t ht
     rw [F1.size, hN]; simpa using this
    ·refine ((hus.2 j hj).mem (Z' := fun q b => Zn q b ∨ Zx b) (w' := W) (fun q b hb => ⟨?_, rfl⟩)).ext (fun k x e => by cases e)
     cases q
     ·exact .inr hb
     ·rcases hb with hb | hb
      ·exact .inl ((g7 b).1 hb)
      ·exact .inr hb)
   rw [hBB] at F2
   rw [show (fun t => (lk (zipE ps.toList x ++ env) t).ren r) = lk (renE r (zipE ps.toList x ++ env)) from funext fun t => (renE_at _ t).symm] at F2
   rw [htm] at hy
   refine ⟨fnid, tm, assign, body, by rw [hy, hrec], roundIn_of_wpIn (F := Fw none) trivial ?_⟩
   refine wpIn_mono (hround k x l hFk hx { S with N := fsz S.N, df := [], i0 := nmR r s i', w1 := W, M1 := mutsOf (hk (renB s (B k))) i', Z1 := fun q b => Zn q b ∨ Zx b } _ _ (congrArg fsz hN) ⟨_, _, F2⟩) (fun e a1 Wa ⟨E1, H1, q1, q2⟩ => ?_)
   replace q1 := q1.no (fun ch h => no_pan h)
   cases e with
   | normal =>
    obtain ⟨Z1, i1, F3⟩ := q2
    have hla : Wa.heap[l]? = some (.loop (rec .ready none)) := (F3.kept1.block l hlt hnml).trans g1
    have hDa : Wa.heap[D]? = some (.deferred (some [])) := (F3.kept1.block D hDt hnmD).trans g2
    have hlta : l < Wa.heap.size := (Array.getElem?_eq_some_iff.1 hla).1
    refine ⟨_, run_beginRound hla (by rw [hrec]), ?_⟩
    obtain ⟨Wb, hWb⟩ : ∃ Wb, Wa.putObj l (.loop { rec .ready none with state := .busy }) = Wb := ⟨_, rfl⟩
    rw [hWb]
    have hlb2 : Wb.heap[l]? = some (.loop { rec .ready none with state := .busy }) := by rw [← hWb]; exact World.putObj_heap_same hlta
    have hob : ∀ b, b ≠ l → Wb.heap[b]? = Wa.heap[b]? := fun b hb => by rw [← hWb]; exact World.putObj_heap_other hb
    have hsb : Wb.heap.size = Wa.heap.size := by rw [← hWb]; simp
    have F3' : Fits { S with N := fsz S.N, df := [], i0 := nmR r s i', w1 := Wa, M1 := fun b => mutsOf H1 i1 b ∨ b = l, Z1 := fun q b => Zn q b ∨ Zx b } E1 H1 Z1 i1 a1 Wa :=
     { F3 with kept1 := Kept.refl _ _, zk1 := F3.zk1, box := fun k B hB => (F3.box k B hB).imp (fun ⟨b, c, e1, e2, e3, e4, e5⟩ => ⟨b, c, e1, e2, fun hm => ⟨(e3 hm).1, .inr (.inl ⟨k, B, hB, hm, .root e1⟩)⟩, e4, e5⟩) id, foot := fun k B b hB hm hf => (fun f => ⟨f.1, f.2.1, f.2.2.1, .inr (.inl ⟨k, B, hB, hm, hf⟩)⟩) (F3.foot k B b hB hm hf) }
    have F4 := F3'.other (l := l) (w' := Wb) hla (fun _ _ _ h => by cases h) (by rw [← hWb]; exact ⟨rfl, rfl, rfl, by simp⟩) hob (by show S.w0.heap.size ≤ l; omega) (.inr (.inr rfl)) hnl (fun ms _ h hm => by have := (h l hm).2; rw [hla] at this; cases this)
    have F5 := F4.now
    refine wpIn_mono (q1 { S with N := fsz S.N, df := [], i0 := nmR r s i', w1 := Wb, M1 := mutsOf H1 i1, Z1 := fun q b => Z1 q b ∧ b ≠ l } _ _ (congrArg fsz hN) ⟨_, _, F5⟩) (fun e a3 W3 ⟨E3, H3, p1, p2⟩ => ?_)
    replace p1 := p1.no (fun ch h => no_pan h)
    have hM3 : ∀ b, mutsOf H1 i1 b → W.heap.size ≤ b ∨ mutsOf (hk (renB s (B k))) i' b := fun b hb => (mutsOf_bk F3 hb).2.2.1
    have fin : ∀ (jump : Option Code) (bx : List (Nat × Option Box)), Sub E3 H3 (lk []) (hk bx) → (∀ x, x ∈ bx → r (s x.1) = x.1) → ∃ W4, (Instr.endRound l jump).run P W3 = .ok (.bool jump.isNone) W4 ∧ ∃ C' Z'', St jump (renB s bx) C' Z'' W4 ∧ Kept C W W4 ∧ (∀ b, C' b → C b ∨ W.heap.size ≤ b) ∧ (∀ b, Zc b ∨ Zx b → Z'' b) := fun jump bx hsub hbx => by
     obtain ⟨Z3, i3, F6⟩ := hsub _ _ _ p2
     have hnl3 : ∀ b, (b = l ∨ b = D) → ¬ mutsOf H1 i1 b := fun b hb hm => by
      obtain ⟨_, _, _, t, cs, q⟩ := mutsOf_bk F5 hm
      unfold Bk at q
      rcases hb with rfl | rfl
      ·rw [hlb2] at q; cases q
      ·rw [hob _ (Ne.symm hlD), hDa] at q; cases q
     have hl3 : W3.heap[l]? = some (.loop { rec .ready none with state := .busy }) := (F6.kept1.block l (by show l < Wb.heap.size; omega) (hnl3 l (.inl rfl))).trans hlb2
     have hD3 : W3.heap[D]? = some (.deferred (some [])) := (F6.kept1.block D (by show D < Wb.heap.size; have := (Array.getElem?_eq_some_iff.1 hDa).1; omega) (hnl3 D (.inr rfl))).trans ((hob D (Ne.symm hlD)).trans hDa)
     have hK : Kept (fun b => mutsOf (hk (renB s (B k))) i' b ∨ b = l) W W3 := by
      have ka := F3.kept1
      have kb := F6.kept1
      refine ⟨kb.os.trans (by rw [← hWb]; exact ka.os), kb.tape.trans (by rw [← hWb]; exact ka.tape), kb.output.trans (by rw [← hWb]; exact ka.output), Nat.le_trans (Nat.le_trans ka.size (Nat.le_of_eq hsb.symm)) kb.size, fun b hb hn => ?_⟩
      have hba : b < Wa.heap.size := Nat.lt_of_lt_of_le hb ka.size
      refine (kb.block b (by show b < Wb.heap.size; omega) (fun hm => ?_)).trans ((hob b (fun e => hn (.inr e))).trans (ka.block b hb (fun hm => hn (.inl hm))))
      rcases hM3 b hm with q | q
      ·omega
      ·exact hn (.inl q)
     have hzz : ∀ q b, (Zn q b ∨ Zx b) → Z3 q b := fun q b hb => F6.zk1 q b ⟨F3.zk1 q b hb, fun e => hnl q (e ▸ hb)⟩
     have F7 := F1.over htwo F6 rfl rfl rfl rfl hzz hK (fun b hb => hb.imp id (fun e => by subst e; exact ⟨by omega, hnl true⟩)) (by show S.w1.heap.size ≤ Wb.heap.size; have := F3.kept1.size; have : W.heap.size ≤ Wa.heap.size := this; omega) (fun b hb => by
      rcases hM3 b hb with q | q
      ·exact .inl (by have := F1.kept1.size; omega)
      ·exact (mutsOf_bk F1 q).2.2.1) hbx hfr
     obtain ⟨W4, hW4⟩ : ∃ W4, W3.putObj l (.loop (rec (if jump.isNone then .ready else .done) jump)) = W4 := ⟨_, rfl⟩
     have ho4 : ∀ b, b ≠ l → W4.heap[b]? = W3.heap[b]? := fun b hb => by rw [← hW4]; exact World.putObj_heap_other hb
     have hl4 : W4.heap[l]? = some (.loop (rec (if jump.isNone then .ready else .done) jump)) := by rw [← hW4]; exact World.putObj_heap_same (Array.getElem?_eq_some_iff.1 hl3).1
     have hD4 : W4.heap[D]? = some (.deferred (some [])) := (ho4 D (Ne.symm hlD)).trans hD3
     have hs4 : W4.os = W3.os ∧ W4.tape = W3.tape ∧ W4.output = W3.output ∧ W4.heap.size = W3.heap.size := by rw [← hW4]; exact ⟨rfl, rfl, rfl, by simp⟩
     have F8 := F7.other (l := l) (w' := W4) hl3 (fun _ _ _ h => by cases h) hs4 ho4 (by omega) (.inl (by omega)) (fun q hq => by have := hlz1 q l hq; omega) (fun ms _ h hm => by have := (h l hm).2; rw [hl3] at this; cases this)
     have F9 := F8.other (l := D) (w' := W4) hD4 (fun _ _ _ h => by cases h) ⟨rfl, rfl, rfl, rfl⟩ (fun _ _ => rfl) (by omega) (.inl (by omega)) (fun q hq => by have := hlz1 q D hq; omega) (fun ms he _ hm => by
      obtain ⟨ms', d1, d2, d3⟩ := F1.defers
      rw [d1] at he
      rw [← mark_inj he] at hm
      exact hnD _ (d3 D hm).1)
     refine ⟨W4, ?_, fun b => mutsOf (hk (renB s bx)) (nmR s r i3) b ∨ b = l ∨ b = D, fun b => (Z3 true b ∧ b ≠ l) ∧ b ≠ D, ⟨hl4, hD4, _, _, F9, fun h => h.1.2 rfl, fun h => h.2 rfl, fun _ => Iff.rfl, fun _ => Iff.rfl⟩, ⟨hs4.1.trans hK.os, hs4.2.1.trans hK.tape, hs4.2.2.1.trans hK.output, by rw [hs4.2.2.2]; exact hK.size, fun b hb hn => ?_⟩, fun b hb => ?_, fun b hb => ?_⟩
     ·have := run_endRound (P := P) jump hl3
      rw [this, ← hW4, hrec]
     ·refine (ho4 b (fun e => hn ((g6 b).2 (.inr (.inl e))))).trans (hK.block b hb (fun hm => hn ((g6 b).2 ?_)))
      rcases hm with q | q
      ·exact .inl q
      ·exact .inr (.inl q)
     ·rcases hb with q | q
      ·rcases (mutsOf_bk F6 (muts_back hbx q)).2.2.1 with q1 | q1
       ·exact .inr (by have h1 := F3.kept1.size; have h2 : W.heap.size ≤ Wa.heap.size := h1; have h3 : Wb.heap.size ≤ b := q1; omega)
       ·rcases hM3 b q1 with q2 | q2
        ·exact .inr q2
        ·exact .inl ((g6 b).2 (.inl q2))
      ·exact .inl ((g6 b).2 (.inr q))
     ·have hb2 : Zn true b ∨ Zx b := hb.imp (g7 b).1 id
      exact ⟨⟨hzz true b hb2, fun e => hnl true (e ▸ hb2)⟩, fun e => hnD true (e ▸ hb2)⟩
    have fin2 : ∀ e : Exit, (∃ y, ok y ∧ e = exitOf (ex y) ∧ Sub E3 H3 (lk []) (hk (BX y))) → e ≠ .normal → roundPost P l (fun e W' => (e = .returned (.bool true) ∧ ∃ C' Z', (F (k + 1) ∧ St none (renB s (B (k + 1))) C' Z' W') ∧ Kept C W W' ∧ (∀ b, C' b → C b ∨ W.heap.size ≤ b) ∧ (∀ b, Zc b ∨ Zx b → Z' b)) ∨ (e = .returned (.bool false) ∧ ∃ k' C' Z', ∃ y, ok y ∧ St (some (ex y)) (renB s (BX y)) C' Z' W')) e a3 W3 := fun e ⟨y, hy, he, hsub⟩ hne => by
     obtain ⟨W4, f1, C', Z'', f2, _⟩ := fin (some (ex y)) (BX y) hsub (hBX y)
     subst he
     rcases hex y hy with h | ⟨id, h⟩ <;> rw [h] at f1 f2 ⊢
     ·exact ⟨_, _, f1, .inr ⟨rfl, 0, C', Z'', y, hy, by rw [h]; exact f2⟩⟩
     ·exact ⟨_, _, f1, .inr ⟨rfl, 0, C', Z'', y, hy, by rw [h]; exact f2⟩⟩
    cases e with
    | normal =>
     obtain ⟨W4, f1, C', Z'', f2, f3, f4, f5⟩ := fin none (B (k + 1)) p1.2 (hB (k + 1))
     exact ⟨_, _, f1, .inl ⟨rfl, C', Z'', ⟨p1.1, f2⟩, f3, f4, f5⟩⟩
    | ret => exact fin2 .ret p1 (by simp)
    | exit id => exact fin2 (.exit id) p1 (by simp)
    | goto t =>
     obtain ⟨y, hy, he, _⟩ := p1
     rcases hex y hy with h | ⟨id, h⟩ <;> rw [h] at he <;> cases he
    | panic c =>
     obtain ⟨y, hy, he, _⟩ := p1
     rcases hex y hy with h | ⟨id, h⟩ <;> rw [h] at he <;> cases he
    | outgrown =>
     obtain ⟨y, hy, he, _⟩ := p1
     rcases hex y hy with h | ⟨id, h⟩ <;> rw [h] at he <;> cases he
   | _ => exact q1.elim
  ·have last : ∀ (pe : Option Code) (bx : List (Nat × Option Box)) (C Zc : Nat → Prop) (W : World), St pe bx C Zc W → ∃ W5, (Instr.endLoop l).run P W = .ok pe W5 ∧ RepS S (lk env) (hk bx) { a with defers := { target := .collected D, args := #[] } :: a.defers } W5 := fun pe bx C Zc W ⟨g1, g2, Zn, i', g3, g4, g5, g6, g7⟩ => by
    obtain ⟨W5, hW5⟩ : ∃ W5, W.putObj l (.loop { rec (if pe.isNone then .ready else .done) pe with state := .exhausted }) = W5 := ⟨_, rfl⟩
    have ho5 : ∀ b, b ≠ l → W5.heap[b]? = W.heap[b]? := fun b hb => by rw [← hW5]; exact World.putObj_heap_other hb
    refine ⟨W5, ?_, _, i', ((g3.other (l := l) (w' := W5) g1 (fun _ _ _ h => by cases h) (by rw [← hW5]; exact ⟨rfl, rfl, rfl, by simp⟩) ho5 (by omega) (.inl (by omega)) (fun q hq => by have := hlz1 q l hq; omega) (fun ms _ h hm => by have := (h l hm).2; rw [g1] at this; cases this)).addmark (b := D) ((ho5 D (by omega)).trans g2) (fun h => g5 h.1) (by omega))⟩
    have := run_endLoop (P := P) g1 (by rw [hrec]; cases pe <;> simp)
    rw [this, ← hW5, hrec]
   rintro e W2 ⟨⟨v, rfl⟩, (⟨C, Zc, hst⟩ | ⟨k, C, Zc, y, hy, hst⟩)⟩
   ·obtain ⟨W5, e1, e2⟩ := last _ _ _ _ _ hst.2
    exact ⟨none, W5, e1, _, _, hdone hst.1, e2⟩
   ·obtain ⟨W5, e1, e2⟩ := last _ _ _ _ _ hst
    exact ⟨some (ex y), W5, e1, wpIn_code (hex y hy) ⟨_, _, QP.of (hstop y hy), e2⟩⟩
end


def pinN (ps:List Nat) (k:Nat):Nat:=match inN ps k with
 | true=>k - 900
 | false=>k
def unpN (ps:List Nat) (x:Nat):Nat:=match inN ps (x+900) with
 | true=>x+900
 | false=>x
def toN (a b k:Nat):Nat:=match Nat.beq a k with
 | true=>b
 | false=>k
theorem pin_y {ps:List Nat} {k:Nat} (h:inN ps k=true):pinN ps k=k - 900:=by unfold pinN;rw [h]
theorem pin_n {ps:List Nat} {k:Nat} (h:inN ps k=false):pinN ps k=k:=by unfold pinN;rw [h]
theorem unp_y {ps:List Nat} {k:Nat} (h:inN ps (k+900)=true):unpN ps k=k+900:=by unfold unpN;rw [h]
theorem unp_n {ps:List Nat} {k:Nat} (h:inN ps (k+900)=false):unpN ps k=k:=by unfold unpN;rw [h]
theorem to_y {a b k:Nat} (h:Nat.beq a k=true):toN a b k=b:=by unfold toN;rw [h]
theorem to_n {a b k:Nat} (h:Nat.beq a k=false):toN a b k=k:=by unfold toN;rw [h]
inductive RenLL (r:Nat→Nat):List D→List D→Prop where
 | nil:RenLL r [] []
 | cons {d d':D} {l l':List D} (h:d.ren r=d') (k:RenLL r l l'):RenLL r (d::l) (d'::l')
theorem RenLL.eq {r:Nat→Nat} {l l':List D} (h:RenLL r l l'):D.ren.renL r l=l':=by
 induction h with
 | nil=>rfl
 | cons h _ ih=>simp only [D.ren.renL];rw [h,ih]
theorem ren_eptr {r:Nat→Nat} {k k' m e c:Nat} (h:r k=k'):(D.eptr k m e c).ren r = .eptr k' m e c:=by simp only [D.ren];rw [h]
theorem ren_sl {r:Nat→Nat} {k k' m n:Nat} (h:r k=k'):(D.sl k m n).ren r = .sl k' m n:=by simp only [D.ren];rw [h]
theorem ren_clo {r:Nat→Nat} {f:FuncId} {l l':List D} (h:RenLL r l l'):(D.clo f l).ren r = .clo f l':=by simp only [D.ren];rw [h.eq]
theorem ren_agg {r:Nat→Nat} {l l':List D} (h:RenLL r l l'):(D.agg l).ren r = .agg l':=by simp only [D.ren];rw [h.eq]
theorem ren_tup {r:Nat→Nat} {l l':List D} (h:RenLL r l l'):(D.tup l).ren r = .tup l':=by simp only [D.ren];rw [h.eq]
theorem renb_lit {r:Nat→Nat} {t:TypeId} {l l':List D} (h:RenLL r l l'):(Box.lit t l).ren r = .lit t l':=by simp only [Box.ren];rw [h.eq]
inductive RenEL (r:Nat→Nat):List (Nat × D)→List (Nat × D)→Prop where
 | nil:RenEL r [] []
 | cons {t:Nat} {d d':D} {l l':List (Nat × D)} (h:d.ren r=d') (k:RenEL r l l'):RenEL r ((t,d)::l) ((t,d')::l')
theorem RenEL.eq {r:Nat→Nat} {l l':List (Nat × D)} (h:RenEL r l l'):renE r l=l':=by
 induction h with
 | nil=>rfl
 | cons h _ ih=>simp only [renE];rw [h,ih]
inductive RenBL (r:Nat→Nat):List (Nat × Option Box)→List (Nat × Option Box)→Prop where
 | nil:RenBL r [] []
 | cons {k k':Nat} {B B':Box} {l l':List (Nat × Option Box)} (h:r k=k') (hB:B.ren r=B') (q:RenBL r l l'):RenBL r ((k,some B)::l) ((k',some B')::l')
theorem RenBL.eq {r:Nat→Nat} {l l':List (Nat × Option Box)} (h:RenBL r l l'):renB r l=l':=by
 induction h with
 | nil=>rfl
 | cons h hB _ ih=>simp only [renB,Option.map];rw [h,hB,ih]
inductive ZipL:List Nat→List D→List (Nat × D)→List (Nat × D)→Prop where
 | nil {E:List (Nat × D)}:ZipL [] [] E E
 | cons {t:Nat} {d:D} {ts:List Nat} {ds:List D} {E E':List (Nat × D)} (h:ZipL ts ds E E'):ZipL (t::ts) (d::ds) E ((t,d)::E')
theorem ZipL.eq {ts:List Nat} {ds:List D} {E E':List (Nat × D)} (h:ZipL ts ds E E'):zipE ts ds++E=E':=by
 induction h with
 | nil=>rfl
 | cons _ ih=>simp only [zipE,List.cons_append];rw [ih]
theorem sub_ren {env:List (Nat × D)} {box:List (Nat × Option Box)} {r s:Nat→Nat} (hr:Two r s box) (hs:∀ k,k<1000→s k=k):Sub (lk env) (hk box) (lk (renE r env)) (hk (renB r box)):=fun S a w ⟨Z,i,h⟩=>by
 have hat:=renB_at (r:=r) (s:=s) box hr.back
 have hH:∀ k B,hk (renB r box) k=some B→r (s k)=k∧∃ B0,hk box (s k)=some B0∧B=B0.ren r∧nmR r s i k=i (s k):=fun k B hB=>by
  rw [hat] at hB
  by_cases q:r (s k)=k
  ·rw [if_pos q] at hB
   cases e:hk box (s k) with
   | none=>rw [e] at hB;cases hB
   | some B0=>rw [e] at hB;cases hB;exact ⟨q,B0,rfl,rfl,by unfold nmR;rw [if_pos q]⟩
  ·rw [if_neg q] at hB;cases hB
 refine ⟨Z,nmR r s i,{ h with env:=fun t=>by rw [renE_at];exact (h.env t).rename (fun k x e=>h.nmR_at hr e),box:=fun k B hB=>?_,foot:=fun k B b hB hm hf=>?_,nil:=fun k hk'=>?_,low:=fun k hk'=>by unfold nmR;rw [hs k hk',hr.low k hk',if_pos rfl];exact h.low k hk',inj:=fun k k' B B' b h1 h2 m1 m2 e1 e2=>?_ }⟩
 ·obtain ⟨q,B0,g1,rfl,g3⟩:=hH k B hB
  rcases h.box _ B0 g1 with ⟨b,c,e1,e2,e3,e4,e5⟩ | ⟨e1,e2⟩
  ·refine .inl ⟨b,c,g3.trans e1,e2.imp id (fun ⟨p1,p2⟩=>⟨by rw [← q,hr.low _ p1];exact p1,p2⟩),fun hm=>?_,fun hi=>?_,e5.ren (fun k x e=>h.nmR_at hr e)⟩
   ·rw [Box.ren_mut] at hm;exact e3 hm
   ·rw [Box.ren_ice] at hi;exact e4 hi
  ·exact .inr ⟨g3.trans e1,Box.ren_nil e2⟩
 ·obtain ⟨q,B0,g1,rfl,g3⟩:=hH k B hB
  rw [Box.ren_mut] at hm
  have f:=h.foot _ B0 b g1 hm (g3▸hf.unren)
  exact ⟨f.1,f.2.1.imp id (fun ⟨p1,p2,c,p3⟩=>⟨by rw [← q,hr.low _ p1];exact p1,p2,c,g3.trans p3⟩),f.2.2⟩
 ·rw [hat] at hk'
  unfold nmR
  by_cases q:r (s k)=k
  ·rw [if_pos q] at hk' ⊢
   cases e:hk box (s k) with
   | none=>exact h.nil _ e
   | some B0=>rw [e] at hk';cases hk'
  ·rw [if_neg q]
 ·obtain ⟨q,B0,g1,rfl,g3⟩:=hH k B h1
  obtain ⟨q',B0',g1',rfl,g3'⟩:=hH k' B' h2
  rw [Box.ren_mut] at m1 m2
  rw [← q,← q',h.inj _ _ _ _ b g1 g1' m1 m2 (g3▸e1.unren) (g3'▸e2.unren)]
theorem two_of {r s:Nat→Nat} {box:List (Nat × Option Box)} (hl:∀ k,k<1000→r k=k) (h:(box.all fun x=>Nat.beq (s (r x.1)) x.1)=true):Two r s box:=⟨hl,fun x hx=>by simpa using List.all_eq_true.1 h x hx⟩
theorem pin_low {ps:List Nat} (h:(ps.all fun k=>Nat.ble 1000 k)=true) (k:Nat) (hk:k<1000):pinN ps k=k:=pin_n (by
 cases e:inN ps k with
 | false=>rfl
 | true=>
  unfold inN at e
  obtain ⟨x,h1,h2⟩:=List.any_eq_true.1 e
  have:=List.all_eq_true.1 h x h1
  simp at h2 this
  omega)
theorem sub_toE (a b:Nat) {env:List (Nat × D)} {box box1 box':List (Nat × Option Box)} {E2:Nat→D} {H2:Nat→Option Box} (h:Sub (lk []) (hk box') E2 H2)
  (hbk:autoParam (KeepB [b] box box1) aq11._auto_1) (hB:autoParam (RenBL (toN a b) box1 box') aq9._auto_1) (h1:Nat.ble 1000 a=true:=by rfl) (h2:(box1.all fun x=>Nat.beq (toN b a (toN a b x.1)) x.1)=true:=by kernel_rfl) (h3:Nat.ble 1000 b=true:=by rfl)
  (hs:Sub (lk env) (hk box) (lk []) (hk box1):=by exact sub):Sub (lk env) (hk box) E2 H2:=by
 refine hs.trans (Sub.trans ?_ h)
 have:=sub_ren (env:=[]) (two_of (r:=toN a b) (s:=toN b a) (box:=box1) (fun k hk=>to_n (beq_ne (by have:=Nat.le_of_ble_eq_true h1;omega))) h2) (fun k hk=>to_n (beq_ne (by have:=Nat.le_of_ble_eq_true h3;omega)))
 rw [hB.eq] at this
 exact this
theorem appF_snoc {n:Nat} {f g:Nat→List D} (h:g 0=f n):∀ e,e<n+1→appF n f g e=f e:=fun e he=>by
 unfold appF
 by_cases q:e<n
 ·rw [show Nat.blt e n=true from blt_of q]
 ·obtain rfl:e=n:=by omega
  rw [show Nat.blt e e=false by cases hb:Nat.blt e e;rfl;exact absurd (by simpa using hb) (Nat.lt_irrefl e),Nat.sub_self];exact h
theorem sub_arr (k:Nat) (f':Nat→List D) {env:List (Nat × D)} {box:List (Nat × Option Box)} {t:TypeId} {n m:Nat} {f:Nat→List D} {E2:Nat→D} {H2:Nat→Option Box} (he:∀ e,e<n→f e=f' e) (hl:∀ e,(f' e).length=m) (h:Sub (lk env) (hk ((k,some (.arr t n m f'))::box)) E2 H2) (hb:autoParam (Bl box k (.arr t n m f)) aq6._auto_1):Sub (lk env) (hk box) E2 H2:=
 Sub.trans (sub_box k (.arr t n m f') (by rw [hb.eq];exact .arr (Nat.le_refl _) (fun e hn=>⟨hl e,fun c hc=>by rw [he e hn];exact inferInstance⟩)) rfl) h
theorem c_arr (k:Nat) (f':Nat→List D) {ro:Option Nat} {P:Program} {N:Nat} {Q:Post} {c:Code} {env:List (Nat × D)} {box:List (Nat × Option Box)} {t:TypeId} {n m:Nat} {f:Nat→List D} (he:∀ e,e<n→f e=f' e) (hl:∀ e,(f' e).length=m) (h:AWp ro P N c (lk env) (hk ((k,some (.arr t n m f'))::box)) Q) (hb:autoParam (Bl box k (.arr t n m f)) aq6._auto_1):AWp ro P N c (lk env) (hk box) Q:=
 awp_sub (sub_arr k f' he hl (Sub.refl _ _) hb) h
theorem fin_arr (k:Nat) (f':Nat→List D) {P:Program} {fn:Func} {r:D} {hs rs:Hs} {env:List (Nat × D)} {box:List (Nat × Option Box)} {t:TypeId} {n m:Nat} {f:Nat→List D} (he:∀ e,e<n→f e=f' e) (hl:∀ e,(f' e).length=m) (h:FinS P fn r hs rs (lk env) (hk ((k,some (.arr t n m f'))::box))) (hb:autoParam (Bl box k (.arr t n m f)) aq6._auto_1):FinS P fn r hs rs (lk env) (hk box):=
 h.sub (sub_arr k f' he hl (Sub.refl _ _) hb)
section
variable {ro:Option Nat} {P:Program} {N:Nat} {Q:Post} {env env1:List (Nat × D)} {box:List (Nat × Option Box)}
theorem c_range {α:Type} (pins:List Nat) {f:FuncId} {caps:List D} {xs:List (List D)} (hit:ItrD P f caps xs) (n:Nat) (hn:xs.length=n) (X:Nat→List D) (hX:∀ k,k<n→xs[k]? = some (X k)) (B:Nat→List (Nat × Option Box)) (BX:α→List (Nat × Option Box)) (ok:α→Prop) (ex:α→Code) (F:Nat→Prop)
  {g:Operand} {ps:List Tmp} {assign body:Code} {caps0:List D} {fn:Func} {EZ ER:Nat→List (Nat × D)} {BS:Nat→List (Nat × Option Box)} {BXS:α→List (Nat × Option Box)} [hf:FI P f fn] [hod:OldDL caps] [hcv:Cvt (.clo f caps0) (.clo f caps)]
  (hF0:F 0) (hround:∀ k l,k<n→F k→AWp (some l) P (fsz N) assign (lk (ER k)) (hk (B k)) (AThen (fun E1 H1=>AWp (some l) P (fsz N) body E1 H1 (RndP (F (k+1)) (B (k+1)) BX ok ex)) (fun _ _ _=>False)))
  (hdone:F n→Q .normal (lk env1) (hk (BS n))) (hstop:∀ y,ok y→Q (exitOf (ex y)) (lk env1) (hk (BXS y)))
  (he:autoParam (KeepE [] env env1) aq10._auto_1) (hBS:autoParam (∀ k,RenBL (unpN pins) (B k) (BS k)) aq8._auto_1) (hBX:autoParam (∀ y,RenBL (unpN pins) (BX y) (BXS y)) aq8._auto_1) (hEZ:∀ k,ZipL ps (X k) env1 (EZ k):=by (intro k;(repeat (first | exact ZipL.nil | apply ZipL.cons)))) (hER:autoParam (∀ k,RenEL (pinN pins) (EZ k) (ER k)) aq5._auto_1)
  (hg:autoParam (Op1 env1 g (.clo f caps0)) aq1._auto_1) (h0:Sub (lk env) (hk box) (lk env1) (hk (BS 0)):=by exact sub)
  (hex:∀ y,ok y→ex y = .ret∨∃ id,ex y = .exit id:=by (intro y _;first | exact .inl rfl | exact .inr ⟨_,rfl⟩ | exact y.elim)) (hno:D.free.freeL (fun _=>false) caps0=true:=by rfl) (hps:(ps.all fun t=>Nat.blt t (fsz N))=true:=by rfl) (hnd:ps.Nodup:=by decide) (hlen:∀ k,(X k).length=ps.length:=by (intro k;rfl))
  (h1:∀ k,((B k).all fun x=>Nat.beq (pinN pins (unpN pins x.1)) x.1)=true:=by (intro k;kernel_rfl)) (h2:∀ y,((BX y).all fun x=>Nat.beq (pinN pins (unpN pins x.1)) x.1)=true:=by (intro k;kernel_rfl)) (h3:∀ k,RenBL (pinN pins) (BS k) (B k):=by (intro k;(repeat (first | exact RenBL.nil | (apply RenBL.cons;(focus ((first | exact pin_y rfl | exact pin_n rfl);done));(focus ((first | exact renb_free rfl | exact renb_lit (by (repeat (first | exact RenLL.nil | (apply RenLL.cons;(focus ((first | exact D.ren_free _ rfl | exact ren_eptr (by first | exact pin_y rfl | exact pin_n rfl) | exact ren_sl (by first | exact pin_y rfl | exact pin_n rfl));done)))))));done))))))) (h4:(pins.all fun k=>Nat.ble 1000 k)=true:=by rfl)
  (hfr:envFree (fun k=>Nat.blt (pinN pins k) 1000 && Nat.beq (unpN pins (pinN pins k)) k) env1=true:=by kernel_rfl):AWp none P N (.rangeFunc g ps.toArray assign body) (lk env) (hk box) Q:=by
 have hB:∀ k x,x∈B k→pinN pins (unpN pins x.1)=x.1:=fun k x hx=>by simpa using List.all_eq_true.1 (h1 k) x hx
 have hB':∀ y x,x∈BX y→pinN pins (unpN pins x.1)=x.1:=fun k x hx=>by simpa using List.all_eq_true.1 (h2 k) x hx
 refine awp_sub h0 ?_
 rw [← (hBS 0).eq]
 refine awp_range (r:=pinN pins) (s:=unpN pins) hit hg.opd hcv hno B BX ok ex F hF0 hex hps hnd (fun x hx=>?_) ⟨fun k hk=>pin_low h4 k hk,fun x hx=>?_⟩ hB hB' (fun k=>by rw [(hBS k).eq,(h3 k).eq]) hfr (Sub.refl _ _) (fun k x l hFk hx=>?_) (by rw [hn,(hBS n).eq];exact hdone) (fun y hy=>by rw [(hBX y).eq];exact hstop y hy)
 ·obtain ⟨k,hk,rfl⟩:=List.getElem_of_mem hx
  have:=hX k (by omega)
  rw [List.getElem?_eq_getElem hk] at this
  rw [Option.some.inj this]
  simpa using hlen k
 ·obtain ⟨y,y1,y2⟩:=renB_mem hx
  rw [y2,hB 0 y y1]
 ·have hk:k<n:=by rw [← hn];exact (List.getElem?_eq_some_iff.1 hx).1
  rw [hX k hk] at hx
  cases hx
  have:=hround k l hk hFk
  rw [← (hER k).eq,← (hEZ k).eq] at this
  simpa using this
end
section
variable {ro:Option Nat} {P:Program} {N:Nat} {Q:Post} {ops:Array Oper} {rest:List Oper} {env:List (Nat × D)} {box:List (Nat × Option Box)} {done:List Rec} {K:List Rec→List (Nat × D)→List (Nat × Option Box)→Prop} {d:Nat} {ty:TypeId} {pos:String} {aft:Array Edge}
theorem r_callM (k:Nat) {x:Operand} {xs:List Operand} {ts:Array TypeId} {f:FuncId} {fn:Func} {ds ads caps:List D} {r d0:D} {B B':Box} [hf:FI P f fn] [hod:OldDL ds] [hob:AllOld [(0,B)]] [hnew:NewD r] [hnb:AllNew [(0,B')]] (hden:DenH P f ds [(0,B)] r [(0,B')] []) (h:RunK P N ops rest ((d,r)::env) ((k,some B')::box) (done++[⟨nsOf box (ads++caps),some d,r,[(k,some B')],[]⟩]) K) (hx:autoParam (Op1 env x d0) aq1._auto_1) (hcl:autoParam ((d0 = .val (.func (.func f) #[] #[])∧caps=[])∨d0 = .clo f caps) aq12._auto_1) (ha:autoParam (Op1L env xs ads) aq3._auto_1) (hb:autoParam (Bl box k B) aq6._auto_1) (hm:memB k (nsOf box (ads++caps))=true:=by kernel_rfl) (hv:autoParam (ArgVL true [k] (nsOf box (ads++caps)) [0] (fun _=>k) (hk box) (ads++caps) ds) aq4._auto_1) (hr:r.free (fun _=>false)=true:=by rfl) (hbf:B'.free (fun _=>false)=true:=by rfl) (hd:Nat.blt d (fsz N)=true:=by rfl):RunK P N ops (⟨some d,.call { callee:=.value x,args:=xs.toArray,argTypes:=ts },ty,pos,aft,none⟩::rest) env box done K:=
 run_put (ws:=[(k,some B')]) (fresh:=[]) (by have:=loc_call (lend:=true) (ρ:=fun _=>k) (P:=P) (N:=N) (o:=⟨some d,.call { callee:=.value x,args:=xs.toArray,argTypes:=ts },ty,pos,aft,none⟩) rfl hd hx.opd hcl ha.opd hden hv (fun x C hm=>by cases hm with | head=>exact hb.eq | tail _ h=>cases h) (fun x hx=>memB_spec hm) rfl rfl (fun h=>⟨hnew,hnb⟩);rw [D.ren_free _ hr] at this;simp only [outL,List.append_nil,renb_free hbf] at this;exact this) rfl h
end
theorem c_cut0 (I:List (Nat × D)) {ro:Option Nat} {P:Program} {N:Nat} {Q:Post} {c y:Code} {env env1 env2:List (Nat × D)} {box box1:List (Nat × Option Box)} (h1:AWp ro P N c (lk env) (hk box) (AThen (fun E H=>Sub E H (lk env2) (hk box1)) Q)) (h2:AWp ro P N y (lk env2) (hk box1) Q) (he:autoParam (KeepE (dstsOf c++I.map (·.1)) env env1) aq10._auto_1) (ha:AppL I env1 env2:=by (repeat (first | exact AppL.nil | apply AppL.cons))) (hb:autoParam (KeepB [] box box1) aq11._auto_1):AWp ro P N c (lk env) (hk box) (AThen (fun E H=>AWp ro P N y E H Q) Q):=
 h1.mono (fun e E H h=>by
  cases e with
  | normal=>exact awp_sub h h2
  | _=>exact h)

section
variable {P:Program} {N:Nat} {o:Oper} {E:Nat→D} {H:Nat→Option Box}
theorem loc_buildSlice0 {t el:TypeId} {k m:Nat} {f:Nat→List D} {info info':TypeInfo} {d':TypeDesc} (ho:o.op = .buildSlice t 0 #[]) (hd:dstLt o N=true) [hT:TI P t info (.slice el)] [hT':TI P el info' d'] :
  Loc P N o E H ⟨[],o.dst,.sl k m 0,[(k,some (.arr el 0 m f))],[k]⟩:=
 loc_new (by simp [ho]) hd rfl (fun E1 H1 S Z i a w hF hA hN=>by
  have s1:(sizeOf el).run P w = .ok info'.size w:=by simp [sizeOf,typeInfo,hT'.info,Result.andThen]
  refine ⟨.slice (some ⟨w.heap.size,0,none⟩) 0 0,.cells #[] el (0,0),0,?_,fun w' h1' hb' hlt i' h2=>⟨#[],hb',by show 0=0*m;simp,Nat.le_refl _,fun e he=>by omega,fun e c he=>by omega⟩,fun w' i' hi=>.sl _ _ _ _ _ hi (Nat.le_refl _) (by show 0≤_;omega)⟩
  have hr:(Instr.buildSlice t 0 #[]).run P w = .ok (.slice (some ⟨w.heap.size,0,none⟩) 0 0) (w.alloc (.cells #[] el (0,0))):=by
   unfold Instr.buildSlice
   simp only [Sem.run_bind,run_underlying hT.under,Result.andThen,s1]
   rw [if_neg (by simp),if_pos (by simp)]
   simp only [Sem.run_bind,pure_bind,Result.andThen,Sem.run_pure]
   rw [show Array.map (fun x=>(#[]:Array Value)[x % (#[]:Array Value).size]!) (Array.range (0*info'.size))=#[] by simp]
   rfl
  simp only [execOp,ho]
  simp only [List.map_toArray,List.map_nil,Array.map_empty]
  rw [Sem.run_bind,hr];rfl)
end
section
variable {ro:Option Nat} {P:Program} {N:Nat} {Q:Post} {ops:Array Oper} {rest:List Oper} {env:List (Nat × D)} {box:List (Nat × Option Box)} {done:List Rec} {K:List Rec→List (Nat × D)→List (Nat × Option Box)→Prop} {d:Nat} {ty:TypeId} {pos:String} {aft:Array Edge}
theorem r_bsl0 (m:Nat) (f:Nat→List D) {t el:TypeId} {info info':TypeInfo} {d':TypeDesc} [hT:TI P t info (.slice el)] [hT':TI P el info' d'] (h:RunK P N ops rest ((d,.sl (1000+d) m 0)::env) ((1000+d,some (.arr el 0 m f))::box) (done++[⟨[],some d,.sl (1000+d) m 0,[(1000+d,some (.arr el 0 m f))],[1000+d]⟩]) K) (hd:Nat.blt d (fsz N)=true:=by rfl):RunK P N ops (⟨some d,.buildSlice t 0 #[],ty,pos,aft,none⟩::rest) env box done K:=
 run_put (ws:=[(1000+d,some (.arr el 0 m f))]) (fresh:=[1000+d]) (loc_buildSlice0 rfl hd) rfl h
end
theorem gor {G G':Prop} (g:G') (h:Back G' G:=by ((repeat (apply Back.step;(focus (first | (intro h;exact go1 h) | ((with_reducible apply g_T);rfl;(focus ((repeat (first | (with_reducible exact Lk.here) | apply Lk.there rfl));done))) | ((with_reducible apply g_M);rfl;(focus ((repeat (first | (with_reducible exact Lk.here) | apply Lk.there rfl));done));rfl;(focus (((intro hb;refine go1 ?_;exact run_fin rfl));done))) | ((with_reducible apply g_W);rfl;(focus ((repeat (first | exact Lk.here | apply Lk.there rfl));done));rfl;(focus (((intro hb;refine go1 ?_;exact run_fin rfl));done))) | ((with_reducible refine c_end ?_);kernel_rfl)))));exact Back.refl)):G:=h.go g

set_option maxRecDepth 20000
section
variable {ro:Option Nat} {P:Program} {N:Nat} {Q:Post} {ops:Array Oper} {rest:List Oper} {env:List (Nat × D)} {box:List (Nat × Option Box)} {done:List Rec} {K:List Rec→List (Nat × D)→List (Nat × Option Box)→Prop} {d:Nat} {ty:TypeId} {pos:String} {aft:Array Edge}
theorem c_no {c:Operand} {b:Bool} {x y:Code} (h:AWp ro P N y (lk env) (hk box) Q) (hc:autoParam (Op1 env c (.val (.bool b))) aq1._auto_1) (hb:b=false:=by rfl):AWp ro P N (.cond c x y) (lk env) (hk box) Q:=c_ifB (fun e=>by rw [hb] at e;cases e) (fun _=>h) hc
theorem c_yes {c:Operand} {b:Bool} {x y:Code} (h:AWp ro P N x (lk env) (hk box) Q) (hc:autoParam (Op1 env c (.val (.bool b))) aq1._auto_1) (hb:b=true:=by rfl):AWp ro P N (.cond c x y) (lk env) (hk box) Q:=c_ifB (fun _=>h) (fun e=>by rw [hb] at e;cases e) hc
end
end Go.Proofs.YtdcenblblimkfaaGreat
