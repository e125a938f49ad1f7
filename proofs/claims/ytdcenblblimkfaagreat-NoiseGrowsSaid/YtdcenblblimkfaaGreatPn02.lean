/- Data as trees, and how they lie in memory. No walk.
A call's own boxes; what a state of data says of the machine's. No walk.
What each operation that only reads makes of a state of data. No walk.
The plain law of a supply of bits: bits, the number of the next bits, a number below n, lists of such numbers. No program. -/
import Derived.Test.YtdcenblblimkfaaGreatProg
import Derived.Below
import Derived.Orders
import Derived.OrdersIn
import Derived.RangeFuncCalls
import Derived.Laws.OwnMore
import Derived.Laws.MakeOwn
import Derived.Laws.CopyOwn
import Derived.Maps.AppendAt
import Derived.Shelf.Abstract
import Derived.KernelRfl
import Derived.WalkKit
set_option linter.unusedSimpArgs false
set_option linter.unusedVariables false
set_option linter.unnecessarySimpa false
set_option linter.unusedSectionVars false
namespace Go.Proofs.YtdcenblblimkfaaGreat
open Go.RowKit

inductive D where
 | any
 | val (v:Value)
 | eptr (k m e c:Nat)
 | sl (k m len:Nat)
 | slr (k e m len:Nat)
 | eptrr (k e m x c:Nat)
 | fz (o:Bool) (n m:Nat) (f:Nat→List D)
 | fptr (o:Bool) (l:List D)
 | clo (fn:FuncId) (l:List D)
 | agg (l:List D)
 | tup (l:List D)
instance:Inhabited D:=⟨.any⟩
def dl:List D→Nat→D
 | [],_=>.any
 | d::_,0=>d
 | _::l,j+1=>dl l j
theorem dl_eq:∀ (l:List D) (j:Nat),dl l j=l.getD j .any
 | [],_=>rfl
 | _::_,0=>rfl
 | _::l,j+1=>by rw [dl,dl_eq l j];rfl
structure Cp where
 c:Nat
 r:Nat→Option (Nat × Nat)
def noR:Nat→Option (Nat × Nat):=fun _=>none
instance:Coe Nat Cp:=⟨fun n=>⟨n,noR⟩⟩
instance (n:Nat):OfNat Cp n:=⟨⟨n,noR⟩⟩
abbrev Nm:=Nat→Option (Option (Nat × Cp))
def noN:Nm:=fun _=>none
def NmLe (x y:Option (Nat × Cp)):Prop:=x=y∨∃ b cp cp',x=some (b,cp)∧y=some (b,cp')∧cp.c=cp'.c∧∀ e v,cp.r e=some v→cp'.r e=some v
theorem NmLe.some {b:Nat} {cp:Cp} {y:Option (Nat × Cp)} (h:NmLe (some (b,cp)) y):∃ cp',y=some (b,cp')∧cp.c=cp'.c∧∀ e v,cp.r e=some v→cp'.r e=some v:=by
 rcases h with rfl | ⟨b',c,c',h1,h2,h3⟩
 ·exact ⟨cp,rfl,rfl,fun _ _ h=>h⟩
 ·cases h1;exact ⟨c',h2,h3⟩
theorem NmLe.none {y:Option (Nat × Cp)} (h:NmLe none y):y=none:=by
 rcases h with rfl | ⟨b',c,c',h1,_⟩
 ·rfl
 ·cases h1
abbrev Zn:=Bool→Nat→Prop
inductive Rep (Z:Zn) (w:World):Nm→Value→D→Prop where
 | any (i v):Rep Z w i v .any
 | val (i v):Rep Z w i v (.val v)
 | eptr (i) {b:Nat} {cap:Cp} (k m e c:Nat) (h:i k=some (some (b,cap))):Rep Z w i (.pointer (some ⟨b,e*m+c,none⟩)) (.eptr k m e c)
 | sl (i) {b:Nat} (k m len:Nat) (cap:Cp) (h:i k=some (some (b,cap))) (h1:len≤cap.c) (h2:cap.c≤9223372036854775807):Rep Z w i (.slice (some ⟨b,0,none⟩) len cap.c) (.sl k m len)
 | sl0 (i) (k m:Nat) (h:i k=some none):Rep Z w i (.slice none 0 0) (.sl k m 0)
 | slr (i) {r:Nat} {cp:Cp} (k e m len b cap:Nat) (h:i k=some (some (r,cp))) (hr:cp.r e=some (b,cap)) (h1:len≤cap) (h2:cap≤9223372036854775807):Rep Z w i (.slice (some ⟨b,0,none⟩) len cap) (.slr k e m len)
 | eptrr (i) {r:Nat} {cp:Cp} (k e m x c:Nat) {b cap:Nat} (h:i k=some (some (r,cp))) (hr:cp.r e=some (b,cap)):Rep Z w i (.pointer (some ⟨b,x*m+c,none⟩)) (.eptrr k e m x c)
 | fz (i) (o:Bool) (ao:Option Addr) (n cap m:Nat) (f:Nat→List D) (vs:Nat→Nat→Value) (h1:n≤cap) (h2:cap≤9223372036854775807) (hl:∀ e,e<n→(f e).length=m)
   (ha:∀ e c,e<n→c<m→∃ b p,ao=some ⟨b,p,none⟩∧Z o b∧w.cell? ⟨b,p+(e*m+c),none⟩=some (vs e c)∧(vs e c).oneCell'=true)
   (hr:∀ e c,e<n→c<m→Rep Z w noN (vs e c) (dl (f e) c)):Rep Z w i (.slice ao n cap) (.fz o n m f)
 | fptr (i) (o:Bool) (b p:Nat) (l:List D) (vs:Nat→Value) (ha:∀ c,c<l.length→Z o b∧w.cell? ⟨b,p+c,none⟩=some (vs c)∧(vs c).oneCell'=true)
   (hr:∀ c,c<l.length→Rep Z w noN (vs c) (dl l c)):Rep Z w i (.pointer (some ⟨b,p,none⟩)) (.fptr o l)
 | clo (i) (fn:FuncId) (vs:List Value) (l:List D) (hl:vs.length=l.length) (hr:∀ j,j<l.length→Rep Z w i (vs.getD j undef) (dl l j)):Rep Z w i (.func (.func fn) #[] vs.toArray) (.clo fn l)
 | agg (i) (vs:List Value) (l:List D) (hl:vs.length=l.length) (h1:∀ j,j<l.length→(vs.getD j undef).oneCell'=true) (hr:∀ j,j<l.length→Rep Z w i (vs.getD j undef) (dl l j)):Rep Z w i (.agg vs.toArray) (.agg l)
 | tup (i) (vs:List Value) (l:List D) (hl:vs.length=l.length) (hr:∀ j,j<l.length→Rep Z w i (vs.getD j undef) (dl l j)):Rep Z w i (.tuple vs.toArray) (.tup l)
def D.free (p:Nat→Bool):D→Bool
 | .eptr k _ _ _=>p k
 | .sl k _ _=>p k
 | .slr k _ _ _=>p k
 | .eptrr k _ _ _ _=>p k
 | .clo _ l=>freeL p l
 | .agg l=>freeL p l
 | .tup l=>freeL p l
 | _=>true
where freeL (p:Nat→Bool):List D→Bool
 | []=>true
 | d::l=>D.free p d && freeL p l
def D.ren (r:Nat→Nat):D→D
 | .eptr k m e c=>.eptr (r k) m e c
 | .sl k m n=>.sl (r k) m n
 | .slr k e m n=>.slr (r k) e m n
 | .eptrr k e m x c=>.eptrr (r k) e m x c
 | .clo f l=>.clo f (renL r l)
 | .agg l=>.agg (renL r l)
 | .tup l=>.tup (renL r l)
 | d=>d
where renL (r:Nat→Nat):List D→List D
 | []=>[]
 | d::l=>D.ren r d::renL r l
def D.one:D→Bool
 | .val v=>v.oneCell'
 | .eptr .. | .sl .. | .slr .. | .eptrr .. | .fz .. | .fptr .. | .clo ..=>true
 | _=>false
theorem freeL_at {p:Nat→Bool}:∀ {l:List D},D.free.freeL p l=true→∀ j,j<l.length→(dl l j).free p=true
 | [],_,j,hj=>by simp at hj
 | d::l,h,j,hj=>by
  simp only [D.free.freeL,Bool.and_eq_true] at h
  cases j with
  | zero=>exact h.1
  | succ j=>exact freeL_at h.2 j (by simpa using hj)
theorem renL_len {r:Nat→Nat}:∀ (l:List D),(D.ren.renL r l).length=l.length
 | []=>rfl
 | d::l=>by simp [D.ren.renL,renL_len l]
theorem renL_at {r:Nat→Nat}:∀ (l:List D) (j:Nat),dl (D.ren.renL r l) j=(dl l j).ren r
 | [],j=>rfl
 | d::l,0=>rfl
 | d::l,j+1=>renL_at l j
theorem D.free_mono {p q:Nat→Bool} (hq:∀ k,p k=true→q k=true):∀ {d:D},d.free p=true→d.free q=true
 | .any,_=>rfl
 | .val _,_=>rfl
 | .eptr k _ _ _,h=>hq k h
 | .sl k _ _,h=>hq k h
 | .slr k _ _ _,h=>hq k h
 | .eptrr k _ _ _ _,h=>hq k h
 | .fz _ _ _ _,_=>rfl
 | .fptr _ _,_=>rfl
 | .clo _ l,h=>mono hq l h
 | .agg l,h=>mono hq l h
 | .tup l,h=>mono hq l h
where mono {p q:Nat→Bool} (hq:∀ k,p k=true→q k=true):∀ (l:List D),D.free.freeL p l=true→D.free.freeL q l=true
 | [],_=>rfl
 | d::l,h=>by
  simp only [D.free.freeL,Bool.and_eq_true] at h ⊢
  exact ⟨D.free_mono hq h.1,mono hq l h.2⟩
section
variable {Z Z':Zn} {w w':World} {i i':Nm} {v:Value} {d:D}
theorem Rep.memC (h:Rep Z w i v d) (hZ:∀ o b p u,Z o b→w.cell? ⟨b,p,none⟩=some u→Z' o b∧w'.cell? ⟨b,p,none⟩=some u):Rep Z' w' i v d:=by
 induction h with
 | any i v=>exact .any i v
 | val i v=>exact .val i v
 | eptr i k m e c h=>exact .eptr i k m e c h
 | sl i k m len cap h h1 h2=>exact .sl i k m len cap h h1 h2
 | sl0 i k m h=>exact .sl0 i k m h
 | slr i k e m len b cap h hr h1 h2=>exact .slr i k e m len b cap h hr h1 h2
 | eptrr i k e m x c h hr=>exact .eptrr i k e m x c h hr
 | fz i o ao n cap m f vs h1 h2 hl ha hr ih=>
  refine .fz i o ao n cap m f vs h1 h2 hl (fun e c he hc=>?_) ih
  obtain ⟨b,p,r1,r2,r3,r4⟩:=ha e c he hc
  exact ⟨b,p,r1,(hZ o b _ _ r2 r3).1,(hZ o b _ _ r2 r3).2,r4⟩
 | fptr i o b p l vs ha hr ih=>
  refine .fptr i o b p l vs (fun c hc=>?_) ih
  obtain ⟨r2,r3,r4⟩:=ha c hc
  exact ⟨(hZ o b _ _ r2 r3).1,(hZ o b _ _ r2 r3).2,r4⟩
 | clo i fn vs l hl hr ih=>exact .clo i fn vs l hl ih
 | agg i vs l hl h1 hr ih=>exact .agg i vs l hl h1 ih
 | tup i vs l hl hr ih=>exact .tup i vs l hl ih
theorem Rep.mem (h:Rep Z w i v d) (hZ:∀ o b,Z o b→Z' o b∧w'.heap[b]? = w.heap[b]?):Rep Z' w' i v d:=h.memC (fun o b p u hz hu=>⟨(hZ o b hz).1,(World.cell?_of_block (w:=w) (a:=⟨b,p,none⟩) (hZ o b hz).2).trans hu⟩)
theorem Rep.nm (h:Rep Z w i v d):∀ {i':Nm} {p:Nat→Bool},d.free p=true→(∀ k x,p k=true→i k=some x→i' k=some x)→Rep Z w i' v d:=by
 induction h with
 | any i v=>intros;exact .any _ _
 | val i v=>intros;exact .val _ _
 | eptr i k m e c h=>intro i' p hf hi;exact .eptr _ _ _ _ _ (hi k _ hf h)
 | sl i k m len cap h h1 h2=>intro i' p hf hi;exact .sl _ _ _ _ _ (hi k _ hf h) h1 h2
 | sl0 i k m h=>intro i' p hf hi;exact .sl0 _ _ _ (hi k _ hf h)
 | slr i k e m len b cap h hr h1 h2=>intro i' p hf hi;exact .slr _ _ _ _ _ _ _ (hi k _ hf h) hr h1 h2
 | eptrr i k e m x c h hr=>intro i' p hf hi;exact .eptrr _ _ _ _ _ _ (hi k _ hf h) hr
 | fz i o ao n cap m f vs h1 h2 hl ha hr ih=>intros;exact .fz _ o ao n cap m f vs h1 h2 hl ha hr
 | fptr i o b q l vs ha hr ih=>intros;exact .fptr _ o b q l vs ha hr
 | clo i fn vs l hl hr ih=>intro i' p hf hi;exact .clo _ fn vs l hl (fun j hj=>ih j hj (freeL_at hf j hj) hi)
 | agg i vs l hl h1 hr ih=>intro i' p hf hi;exact .agg _ vs l hl h1 (fun j hj=>ih j hj (freeL_at hf j hj) hi)
 | tup i vs l hl hr ih=>intro i' p hf hi;exact .tup _ vs l hl (fun j hj=>ih j hj (freeL_at hf j hj) hi)
theorem Rep.ext (h:Rep Z w i v d) (hi:∀ k x,i k=some x→i' k=some x):Rep Z w i' v d:=by
 induction h with
 | any i v=>exact .any _ _
 | val i v=>exact .val _ _
 | eptr i k m e c h=>exact .eptr _ _ _ _ _ (hi k _ h)
 | sl i k m len cap h h1 h2=>exact .sl _ _ _ _ _ (hi k _ h) h1 h2
 | sl0 i k m h=>exact .sl0 _ _ _ (hi k _ h)
 | slr i k e m len b cap h hr h1 h2=>exact .slr _ _ _ _ _ _ _ (hi k _ h) hr h1 h2
 | eptrr i k e m x c h hr=>exact .eptrr _ _ _ _ _ _ (hi k _ h) hr
 | fz i o ao n cap m f vs h1 h2 hl ha hr ih=>exact .fz _ o ao n cap m f vs h1 h2 hl ha hr
 | fptr i o b q l vs ha hr ih=>exact .fptr _ o b q l vs ha hr
 | clo i fn vs l hl hr ih=>exact .clo _ fn vs l hl (fun j hj=>ih j hj hi)
 | agg i vs l hl h1 hr ih=>exact .agg _ vs l hl h1 (fun j hj=>ih j hj hi)
 | tup i vs l hl hr ih=>exact .tup _ vs l hl (fun j hj=>ih j hj hi)
theorem Rep.grow (h:Rep Z w i v d) (hi:∀ k x,i k=some x→∃ y,i' k=some y∧NmLe x y):Rep Z w i' v d:=by
 induction h with
 | any i v=>exact .any _ _
 | val i v=>exact .val _ _
 | eptr i k m e c h=>
  obtain ⟨y,h1,h2⟩:=hi k _ h
  obtain ⟨cp',rfl,_⟩:=h2.some
  exact .eptr _ _ _ _ _ h1
 | sl i k m len cap h q1 q2=>
  obtain ⟨y,h1,h2⟩:=hi k _ h
  obtain ⟨cp',rfl,h3,_⟩:=h2.some
  rw [h3] at q1 q2 ⊢
  exact .sl _ _ _ _ _ h1 q1 q2
 | sl0 i k m h=>
  obtain ⟨y,h1,h2⟩:=hi k _ h
  obtain rfl:=h2.none
  exact .sl0 _ _ _ h1
 | slr i k e m len b cap h hr q1 q2=>
  obtain ⟨y,h1,h2⟩:=hi k _ h
  obtain ⟨cp',rfl,_,h4⟩:=h2.some
  exact .slr _ _ _ _ _ _ _ h1 (h4 _ _ hr) q1 q2
 | eptrr i k e m x c h hr=>
  obtain ⟨y,h1,h2⟩:=hi k _ h
  obtain ⟨cp',rfl,_,h4⟩:=h2.some
  exact .eptrr _ _ _ _ _ _ h1 (h4 _ _ hr)
 | fz i o ao n cap m f vs h1 h2 hl ha hr ih=>exact .fz _ o ao n cap m f vs h1 h2 hl ha hr
 | fptr i o b q l vs ha hr ih=>exact .fptr _ o b q l vs ha hr
 | clo i fn vs l hl hr ih=>exact .clo _ fn vs l hl (fun j hj=>ih j hj hi)
 | agg i vs l hl h1 hr ih=>exact .agg _ vs l hl h1 (fun j hj=>ih j hj hi)
 | tup i vs l hl hr ih=>exact .tup _ vs l hl (fun j hj=>ih j hj hi)
theorem Rep.of_noN (h:Rep Z w noN v d):Rep Z w i v d:=h.ext (fun k x e=>by cases e)
theorem Rep.rename {r:Nat→Nat} (h:Rep Z w i v d):∀ {i':Nm},(∀ k x,i k=some x→i' (r k)=some x)→Rep Z w i' v (d.ren r):=by
 induction h with
 | any i v=>intros;exact .any _ _
 | val i v=>intros;exact .val _ _
 | eptr i k m e c h=>intro i' hi;exact .eptr _ _ _ _ _ (hi k _ h)
 | sl i k m len cap h h1 h2=>intro i' hi;exact .sl _ _ _ _ _ (hi k _ h) h1 h2
 | sl0 i k m h=>intro i' hi;exact .sl0 _ _ _ (hi k _ h)
 | slr i k e m len b cap h hr h1 h2=>intro i' hi;exact .slr _ _ _ _ _ _ _ (hi k _ h) hr h1 h2
 | eptrr i k e m x c h hr=>intro i' hi;exact .eptrr _ _ _ _ _ _ (hi k _ h) hr
 | fz i o ao n cap m f vs h1 h2 hl ha hr ih=>intros;exact .fz _ o ao n cap m f vs h1 h2 hl ha hr
 | fptr i o b q l vs ha hr ih=>intros;exact .fptr _ o b q l vs ha hr
 | clo i fn vs l hl hr ih=>intro i' hi;exact .clo _ fn vs _ (hl.trans (renL_len l).symm) (fun j hj=>by rw [renL_at];exact ih j (by rwa [renL_len] at hj) hi)
 | agg i vs l hl h1 hr ih=>intro i' hi;exact .agg _ vs _ (hl.trans (renL_len l).symm) (fun j hj=>h1 j (by rwa [renL_len] at hj)) (fun j hj=>by rw [renL_at];exact ih j (by rwa [renL_len] at hj) hi)
 | tup i vs l hl hr ih=>intro i' hi;exact .tup _ vs _ (hl.trans (renL_len l).symm) (fun j hj=>by rw [renL_at];exact ih j (by rwa [renL_len] at hj) hi)
theorem Rep.valEq {x:Value} (h:Rep Z w i v (.val x)):v=x:=by cases h;rfl
end
class Cvt (d d':D):Prop where
 cv:∀ {Z:Zn} {w:World} {i:Nm} {v:Value},(∀ b,Z false b→Z true b)→Rep Z w i v d→Rep Z w i v d'
instance (d:D):Cvt d d:=⟨fun _ h=>h⟩
theorem Cvt.any (d:D):Cvt d .any:=⟨fun _ _=>.any _ _⟩
theorem Cvt.of_eq {d d':D} (h:d=d'):Cvt d d':=h▸⟨fun _ h=>h⟩
theorem Cvt.trans {a b c:D} (h:Cvt a b) (k:Cvt b c):Cvt a c:=⟨fun hz hv=>k.cv hz (h.cv hz hv)⟩
theorem Cvt.fz {o o':Bool} {n m:Nat} {f f':Nat→List D} (ho:o=o'∨o=false∧o'=true) (h:∀ e,e<n→(f' e).length=m∧∀ c,c<m→Cvt (dl (f e) c) (dl (f' e) c)):Cvt (.fz o n m f) (.fz o' n m f'):=⟨fun {Z w i v} hz hv=>by
 cases hv with | fz _ _ ao _ cap _ _ vs h1 h2 hl ha hr=>
 refine .fz _ _ ao n cap m f' vs h1 h2 (fun e he=>(h e he).1) (fun e c he hc=>?_) (fun e c he hc=>((h e he).2 c hc).cv hz (hr e c he hc))
 obtain ⟨b,p,r1,r2,r3,r4⟩:=ha e c he hc
 refine ⟨b,p,r1,?_,r3,r4⟩
 rcases ho with rfl | ⟨rfl,rfl⟩
 ·exact r2
 ·exact hz b r2⟩
theorem Cvt.fptr {o o':Bool} {l l':List D} (ho:o=o'∨o=false∧o'=true) (hl:l'.length≤l.length) (h:∀ c,c<l'.length→Cvt (dl l c) (dl l' c)):Cvt (.fptr o l) (.fptr o' l'):=⟨fun {Z w i v} hz hv=>by
 cases hv with | fptr _ _ b p _ vs ha hr=>
 refine .fptr _ _ b p l' vs (fun c hc=>?_) (fun c hc=>(h c hc).cv hz (hr c (by omega)))
 obtain ⟨r2,r3,r4⟩:=ha c (by omega)
 refine ⟨?_,r3,r4⟩
 rcases ho with rfl | ⟨rfl,rfl⟩
 ·exact r2
 ·exact hz b r2⟩
inductive CvtL:List D→List D→Prop where
 | nil:CvtL [] []
 | cons {d d':D} {l l':List D} (h:Cvt d d') (k:CvtL l l'):CvtL (d::l) (d'::l')
theorem CvtL.len {l l':List D} (h:CvtL l l'):l.length=l'.length:=by induction h with | nil=>rfl | cons _ _ ih=>simp [ih]
theorem CvtL.at {l l':List D} (h:CvtL l l'):∀ j,Cvt (dl l j) (dl l' j):=by
 induction h with
 | nil=>intro j;exact .of_eq rfl
 | cons h _ ih=>intro j;cases j with
  | zero=>exact h
  | succ j=>exact ih j
theorem CvtL.refl:∀ (l:List D),CvtL l l
 | []=>.nil
 | d::l=>.cons (.of_eq rfl) (CvtL.refl l)
theorem Cvt.agg {l l':List D} (h:CvtL l l'):Cvt (.agg l) (.agg l'):=⟨fun {Z w i v} hz hv=>by
 cases hv with | agg _ vs _ hl h1 hr=>exact .agg _ vs _ (hl.trans h.len) (fun j hj=>h1 j (by rw [h.len];exact hj)) (fun j hj=>(h.at j).cv hz (hr j (by rw [h.len];exact hj)))⟩
theorem Cvt.tup {l l':List D} (h:CvtL l l'):Cvt (.tup l) (.tup l'):=⟨fun {Z w i v} hz hv=>by
 cases hv with | tup _ vs _ hl hr=>exact .tup _ vs _ (hl.trans h.len) (fun j hj=>(h.at j).cv hz (hr j (by rw [h.len];exact hj)))⟩
theorem Cvt.clo {fn:FuncId} {l l':List D} (h:CvtL l l'):Cvt (.clo fn l) (.clo fn l'):=⟨fun {Z w i v} hz hv=>by
 cases hv with | clo _ _ vs _ hl hr=>exact .clo _ fn vs _ (hl.trans h.len) (fun j hj=>(h.at j).cv hz (hr j (by rw [h.len];exact hj)))⟩
theorem Cvt.nil (o:Bool) (m:Nat) (f:Nat→List D):Cvt (.val (.slice none 0 0)) (.fz o 0 m f):=⟨fun {Z w i v} hz hv=>by
 cases hv;exact .fz _ o none 0 0 m f (fun _ _=>undef) (Nat.le_refl _) (by omega) (fun e he=>by omega) (fun e c he=>by omega) (fun e c he=>by omega)⟩
theorem aq0 (_:True:=by first | exact Op1.const _ | exact Op1.fn _ | exact Op1.gl _ | (apply Op1.tmp;(repeat constructor);done) | (apply o2;(focus ((repeat constructor);done));assumption) | (apply o3;(focus ((repeat constructor);done));assumption;assumption)):True:=trivial
theorem aq1 (_:True:=by (repeat' (first | exact ArgVL.nil | refine ArgVL.cons ?_ ?_ | exact CvVL.nil | refine CvVL.cons ?_ ?_ | refine ArgV.cv ?_ | exact CvV.id rfl | exact CvV.cvt (CvV.id rfl) inferInstance | refine CvV.clo ?_ | refine CvV.agg ?_ | exact CvV.cvt (CvV.sl (Ba.is (by (first | (apply Ba.arr;(repeat (first | exact Bl.here | apply Bl.there rfl));done) | (apply Ba.ice;(repeat (first | exact Bl.here | apply Bl.there rfl)))))) (by omega) rfl (by kernel_rfl)) inferInstance | exact CvV.cvt (CvV.ice (Bl.eq (by (repeat (first | exact Bl.here | apply Bl.there rfl)))) (by omega) (by kernel_rfl)) inferInstance | exact CvV.cvt (CvV.slm (Bl.eq (by (repeat (first | exact Bl.here | apply Bl.there rfl)))) (by omega) rfl (by kernel_rfl)) inferInstance | exact CvV.cvt (CvV.slr (Bl.eq (by (repeat (first | exact Bl.here | apply Bl.there rfl)))) (by omega) (by omega) rfl (by kernel_rfl)) inferInstance | refine CvV.lit (c:=0) (Bl.eq (by (repeat (first | exact Bl.here | apply Bl.there rfl)))) rfl ?_ rfl (by kernel_rfl) | exact CvV.icel (Bl.eq (by (repeat (first | exact Bl.here | apply Bl.there rfl)))) rfl (by kernel_rfl) (by rfl) | exact CvV.iceT (Bl.eq (by (repeat (first | exact Bl.here | apply Bl.there rfl)))) rfl (by kernel_rfl) (by rfl) | exact CvV.cvt (CvV.icep (Bl.eq (by (repeat (first | exact Bl.here | apply Bl.there rfl)))) (by omega) (by kernel_rfl)) inferInstance))):True:=trivial
theorem aq2 (_:True:=by (repeat' (first | exact ArgVL.nil | refine ArgVL.cons ?_ ?_ | exact CvVL.nil | refine CvVL.cons ?_ ?_ | exact ArgV.sl rfl rfl | exact ArgV.eptr rfl rfl | refine ArgV.cv ?_ | exact CvV.id rfl | exact CvV.cvt (CvV.id rfl) inferInstance | refine CvV.clo ?_ | refine CvV.agg ?_ | exact CvV.cvt (CvV.sl (Ba.is (by (first | (apply Ba.arr;(repeat (first | exact Bl.here | apply Bl.there rfl));done) | (apply Ba.ice;(repeat (first | exact Bl.here | apply Bl.there rfl)))))) (by omega) rfl (by kernel_rfl)) inferInstance | exact CvV.cvt (CvV.slm (Bl.eq (by (repeat (first | exact Bl.here | apply Bl.there rfl)))) (by omega) rfl (by kernel_rfl)) inferInstance | exact CvV.cvt (CvV.slr (Bl.eq (by (repeat (first | exact Bl.here | apply Bl.there rfl)))) (by omega) (by omega) rfl (by kernel_rfl)) inferInstance | refine CvV.lit (c:=0) (Bl.eq (by (repeat (first | exact Bl.here | apply Bl.there rfl)))) rfl ?_ rfl (by kernel_rfl) | exact CvV.cvt (CvV.icep (Bl.eq (by (repeat (first | exact Bl.here | apply Bl.there rfl)))) (by omega) (by kernel_rfl)) inferInstance))):True:=trivial
theorem aq3 (_:True:=by (repeat (first | exact Op1L.nil | apply Op1L.cons (by first | exact Op1.const _ | exact Op1.fn _ | exact Op1.gl _ | (apply Op1.whn;(focus (apply Op1.tmp;(repeat (first | exact Lk.here | apply Lk.there rfl));done));assumption) | (apply Op1.tmp;(repeat (first | exact Lk.here | apply Lk.there rfl));done))))):True:=trivial
theorem aq4 (_:True:=by (repeat (first | exact Res1.nil | (apply Res1.tmp;(focus ((repeat (first | exact Lk.here | apply Lk.there rfl));done))) | (apply Res1.one;(focus ((repeat (first | exact Lk.here | apply Lk.there rfl));done));(focus (rfl));(focus ((repeat (first | exact Bl.here | apply Bl.there rfl));done));(focus (rfl));(focus ((repeat (first | exact At.here | apply At.there));done))) | (apply Res1.agg;(focus ((repeat (first | exact Lk.here | apply Lk.there rfl));done));(focus (rfl));(focus ((repeat (first | exact Bl.here | apply Bl.there rfl));done));(focus (rfl));(focus ((repeat (first | exact Sg.nil | apply Sg.take | apply Sg.drop));done)))))):True:=trivial
theorem aq5 (_:True:=by (repeat (first | exact Bl.here | apply Bl.there rfl))):True:=trivial
theorem aq6 (_:True:=by (repeat' (first | exact CvVL.nil | refine CvVL.cons ?_ ?_ | exact CvV.id rfl | refine CvV.clo ?_ | refine CvV.agg ?_ | refine CvV.tup ?_ | exact CvV.icel (Bl.eq (by (repeat (first | exact Bl.here | apply Bl.there rfl)))) rfl (by kernel_rfl) (by rfl) | exact CvV.ice (Bl.eq (by (repeat (first | exact Bl.here | apply Bl.there rfl)))) (by omega) (by kernel_rfl) | exact CvV.cvt (CvV.ice (Bl.eq (by (repeat (first | exact Bl.here | apply Bl.there rfl)))) (by omega) (by kernel_rfl)) inferInstance | exact CvV.icep (Bl.eq (by (repeat (first | exact Bl.here | apply Bl.there rfl)))) (by omega) (by kernel_rfl) | exact CvV.cvt (CvV.id rfl) inferInstance))):True:=trivial
theorem aq7 (_:True:=by (repeat (first | exact KeepE.nil | apply KeepE.drop rfl | (with_reducible apply KeepE.whn) | apply KeepE.keep))):True:=trivial
theorem aq8 (_:True:=by first | exact Op1.const _ | (apply Op1.tmp;(repeat (first | exact Lk.here | apply Lk.there rfl));done)):True:=trivial
theorem aq9 (_:True:=by (repeat (first | exact KeepB.nil | apply KeepB.drop rfl | apply KeepB.keep))):True:=trivial
theorem aq10 (_:True:=by (repeat (first | exact Lk.here | apply Lk.there rfl))):True:=trivial
theorem aq11 (_:True:=by first | exact Op1.const _ | exact Op1.fn _ | exact Op1.gl _ | (apply Op1.tmp;(repeat (first | exact Lk.here | apply Lk.there rfl));done)):True:=trivial
theorem aq12 (_:True:=by first | exact .inl ⟨rfl,rfl⟩ | exact .inr rfl):True:=trivial
theorem aq13 (_:True:=by (intro j;(repeat (first | exact AppL.nil | apply AppL.cons)))):True:=trivial


def Bk (w:World) (b:Nat) (t:TypeId) (cs:Array Value):Prop:=w.heap[b]? = some (.cells cs t (0,0))
theorem Bk.lt {w:World} {b:Nat} {t:TypeId} {cs:Array Value} (h:Bk w b t cs):b<w.heap.size:=by unfold Bk at h;exact (Array.getElem?_eq_some_iff.1 h).1
theorem Bk.cell {w:World} {b:Nat} {t:TypeId} {cs:Array Value} (h:Bk w b t cs) (j:Nat) (hj:j<cs.size):w.cell? ⟨b,j,none⟩=some (cs.getD j undef):=by
 rw [cell_of_row w b j cs t (0,0) h,Array.getD_eq_getD_getElem?,Array.getElem?_eq_getElem hj];rfl
inductive Box where
 | lit (t:TypeId) (ds:List D)
 | arr (t:TypeId) (n m:Nat) (f:Nat→List D)
 | mat (t t2:TypeId) (nb n m2 n2:Nat) (g:Nat→Nat→List D)
 | ice (t:TypeId) (n m:Nat) (f:Nat→List D)
 | gone
def Box.mut:Box→Bool
 | .lit ..=>true
 | .arr ..=>true
 | .mat ..=>true
 | _=>false
def Box.nrows:Box→Nat
 | .mat _ _ _ n _ _ _=>n
 | _=>0
def Box.isIce:Box→Bool
 | .ice ..=>true
 | _=>false
def Box.free (p:Nat→Bool):Box→Bool
 | .lit _ ds=>D.free.freeL p ds
 | _=>true
theorem Box.free_mono {p q:Nat→Bool} (hq:∀ k,p k=true→q k=true) {B:Box} (h:B.free p=true):B.free q=true:=by
 cases B with
 | lit t ds=>exact D.free_mono.mono hq ds h
 | _=>rfl
def ArrAt (Z:Zn) (w:World) (b cap:Nat) (t:TypeId) (n m:Nat) (f:Nat→List D):Prop:=
 ∃ cs:Array Value,Bk w b t cs∧cs.size=cap*m∧n≤cap∧(∀ e,e<n→(f e).length=m)∧∀ e c,e<n→c<m→(cs.getD (e*m+c) undef).oneCell'=true∧Rep Z w noN (cs.getD (e*m+c) undef) (dl (f e) c)
def RowAt (Z:Zn) (w:World) (r:Nat→Option (Nat × Nat)) (b:Nat) (v:Value) (e:Nat) (t2:TypeId) (m2 n2:Nat) (f:Nat→List D):Prop:=
 ∃ b' c',r e=some (b',c')∧b'≠b∧v = .slice (some ⟨b',0,none⟩) n2 c'∧c'≤9223372036854775807∧ArrAt Z w b' c' t2 n2 m2 f
def MatAt (Z:Zn) (w:World) (b:Nat) (cp:Cp) (t t2:TypeId) (nb n m2 n2:Nat) (g:Nat→Nat→List D):Prop:=
 ∃ cs:Array Value,Bk w b t cs∧cs.size=cp.c∧nb≤cp.c∧n≤nb∧(∀ e,e<n→RowAt Z w cp.r b (cs.getD e undef) e t2 m2 n2 (g e))∧(∀ e e' x c c',e<n→e'<n→(cp.r e=some (x,c)→cp.r e'=some (x,c')→e=e'))∧∀ e,n≤e→cp.r e=none
def BoxAt (Z:Zn) (w:World) (i:Nm) (b:Nat) (cap:Cp):Box→Prop
 | .lit t ds=>∃ cs:Array Value,Bk w b t cs∧cs.size=ds.length∧∀ j,j<ds.length→(cs.getD j undef).oneCell'=true∧Rep Z w i (cs.getD j undef) (dl ds j)
 | .arr t n m f=>ArrAt Z w b cap.c t n m f
 | .mat t t2 nb n m2 n2 g=>MatAt Z w b cap t t2 nb n m2 n2 g
 | .ice t n m f=>∃ cap,ArrAt Z w b cap t n m f
 | .gone=>b<w.heap.size
def Foot (B:Box) (x:Option (Option (Nat × Cp))) (b:Nat):Prop:=∃ r cp,x=some (some (r,cp))∧(b=r∨∃ e c,e<B.nrows∧cp.r e=some (b,c))
theorem Foot.root {B:Box} {x:Option (Option (Nat × Cp))} {b:Nat} {cp:Cp} (h:x=some (some (b,cp))):Foot B x b:=⟨b,cp,h,.inl rfl⟩
theorem Foot.flat {B:Box} {x:Option (Option (Nat × Cp))} {b:Nat} (h:Foot B x b) (hB:B.nrows=0):∃ cp,x=some (some (b,cp)):=by
 obtain ⟨r,cp,h1,rfl | ⟨e,c,h2,_⟩⟩:=h
 ·exact ⟨cp,h1⟩
 ·omega
theorem BoxAt.footBk {Z:Zn} {w:World} {i:Nm} {r b:Nat} {cp:Cp} {B:Box} (h:BoxAt Z w i r cp B) (hg:B ≠ .gone) (hf:Foot B (some (some (r,cp))) b):∃ t cs,Bk w b t cs:=by
 obtain ⟨r',cp',h1,h2⟩:=hf
 cases h1
 cases B with
 | mat t t2 nb n m2 n2 g=>
  obtain ⟨cs,hB,_,_,_,hr,_⟩:=h
  rcases h2 with rfl | ⟨e,c,h3,h4⟩
  ·exact ⟨_,_,hB⟩
  ·obtain ⟨b',c',q,_,_,_,q2⟩:=hr e h3
   rw [h4] at q;cases q
   obtain ⟨cs',q3,_⟩:=q2
   exact ⟨_,_,q3⟩
 | lit=>rcases h2 with rfl | ⟨e,c,h3,_⟩;(obtain ⟨cs,hb,_⟩:=h;exact ⟨_,_,hb⟩);exact absurd h3 (Nat.not_lt_zero _)
 | arr=>rcases h2 with rfl | ⟨e,c,h3,_⟩;(obtain ⟨cs,hb,_⟩:=h;exact ⟨_,_,hb⟩);exact absurd h3 (Nat.not_lt_zero _)
 | ice=>rcases h2 with rfl | ⟨e,c,h3,_⟩;(obtain ⟨_,cs,hb,_⟩:=h;exact ⟨_,_,hb⟩);exact absurd h3 (Nat.not_lt_zero _)
 | gone=>exact absurd rfl hg
theorem BoxAt.footLt {Z:Zn} {w:World} {i:Nm} {r b:Nat} {cp:Cp} {B:Box} (h:BoxAt Z w i r cp B) (hf:Foot B (some (some (r,cp))) b):b<w.heap.size:=by
 by_cases hg:B = .gone
 ·subst hg
  obtain ⟨cp',h1⟩:=hf.flat rfl
  cases h1
  exact h
 ·obtain ⟨t,cs,q⟩:=h.footBk hg hf
  exact q.lt
def fsz (N:Nat):Nat:=N % 65536
def panCh (k:Nat):List PanicEntry:=[{ v:=.iface (k / 1000) (.agg #[.int .i64 ((k % 1000:Nat):Int)]),recovered:=false }]
def panAt:Nat→List PanicEntry→Prop
 | 0,_=>False
 | k+1,ch=>ch=panCh k
structure Cx where
 w0:World
 Z0:Nat→Prop
 M:Nat→Prop
 N:Nat
 df:List Deferred
 i0:Nm
 w1:World
 M1:Nat→Prop
 Z1:Zn
def Cx.pan (S:Cx):List PanicEntry→Prop:=panAt (S.N / 65536 % 1099511627776)
structure Kept (M:Nat→Prop) (w w':World):Prop where
 os:w'.os=w.os
 tape:w'.tape=w.tape
 output:w'.output=w.output
 size:w.heap.size≤w'.heap.size
 block:∀ b,b<w.heap.size→¬ M b→w'.heap[b]? = w.heap[b]?
theorem Kept.refl (M:Nat→Prop) (w:World):Kept M w w:=⟨rfl,rfl,rfl,Nat.le_refl _,fun _ _ _=>rfl⟩
theorem Kept.of_below {w w':World} (h:Below w.heap.size w w') (M:Nat→Prop):Kept M w w':=⟨h.os,h.tape,h.output,h.size,fun b hb _=>h.block b hb⟩
def BoxOk (S:Cx) (Z:Zn) (w:World) (i:Nm) (k:Nat) (B:Box):Prop:=
 (∃ b cap,i k=some (some (b,cap))∧(S.w0.heap.size≤b∨(k<1000∧S.M b))∧(B.mut=true→¬ Z true b∧(S.w1.heap.size≤b∨S.M1 b))∧(B.isIce=true→Z false b)∧BoxAt Z w i b cap B)∨(i k=some none∧(B = .gone∨(∃ t m f,B = .arr t 0 m f∨B = .ice t 0 m f)∨∃ t t2 m2 n2 g,B = .mat t t2 0 0 m2 n2 g))
def mark (b:Nat):Deferred:={ target:=.collected b,args:=#[] }
structure Fits (S:Cx) (E:Nat→D) (H:Nat→Option Box) (Z:Zn) (i:Nm) (a:Act) (w:World):Prop where
 defers:∃ ms:List Nat,a.defers=ms.map mark++S.df∧ms.Nodup∧∀ b,b∈ms→Z false b∧w.heap[b]? = some (.deferred (some []))
 size:a.tmps.size=fsz S.N
 kept:Kept S.M S.w0 w
 kept1:Kept S.M1 S.w1 w
 zk1:∀ o b,S.Z1 o b→Z o b
 zsub:∀ b,Z false b→Z true b
 zOld:∀ b,Z true b→b<w.heap.size∧(b<S.w0.heap.size→S.Z0 b)
 zNew:∀ b,Z false b→S.w0.heap.size≤b
 env:∀ t,Rep Z w i (a.tmps.getD t undef) (E t)
 box:∀ k B,H k=some B→BoxOk S Z w i k B
 foot:∀ k B b,H k=some B→B.mut=true→Foot B (i k) b→b<w.heap.size∧(S.w0.heap.size≤b∨(k<1000∧S.M b∧∃ c,i k=some (some (b,c))))∧¬ Z true b∧(S.w1.heap.size≤b∨S.M1 b)
 nil:∀ k,H k=none→i k=none
 low:∀ k,k<1000→i k=S.i0 k
 inj:∀ k k' B B' b,H k=some B→H k'=some B'→B.mut=true→B'.mut=true→Foot B (i k) b→Foot B' (i k') b→k=k'
 plain:72057594037927936≤S.N→a.defers=S.df
theorem Fits.injR {S:Cx} {E:Nat→D} {H:Nat→Option Box} {Z:Zn} {i:Nm} {a:Act} {w:World} (h:Fits S E H Z i a w) (k k':Nat) (B B':Box) (b:Nat) (c c':Cp) (h1:H k=some B) (h2:H k'=some B') (m1:B.mut=true) (m2:B'.mut=true) (e1:i k=some (some (b,c))) (e2:i k'=some (some (b,c'))):k=k':=h.inj k k' B B' b h1 h2 m1 m2 (.root e1) (.root e2)
def RepS (S:Cx) (E:Nat→D) (H:Nat→Option Box) (a:Act) (w:World):Prop:=∃ Z i,Fits S E H Z i a w
def updE (E:Nat→D) (dst:Option Nat) (r:D) (t:Nat):D:=
 match dst with
 | some d=>if d=t then r else E t
 | none=>E t
def updH (H:Nat→Option Box):List (Nat × Option Box)→Nat→Option Box
 | [],k=>H k
 | (x,B)::l,k=>if x=k then B else updH H l k
theorem BoxAt.lt {Z:Zn} {w:World} {i:Nm} {b:Nat} {cap:Cp} {B:Box} (h:BoxAt Z w i b cap B):b<w.heap.size:=h.footLt (.root rfl)
theorem ArrAt.mem {Z Z':Zn} {w w':World} {b cap:Nat} {t:TypeId} {n m:Nat} {f:Nat→List D} (h:ArrAt Z w b cap t n m f) (hb:w'.heap[b]? = w.heap[b]?) (hZ:∀ o x,Z o x→Z' o x∧w'.heap[x]? = w.heap[x]?):ArrAt Z' w' b cap t n m f:=by
 obtain ⟨cs,h1,h2,h3,h4,h5⟩:=h
 exact ⟨cs,hb.trans h1,h2,h3,h4,fun e c he hc=>⟨(h5 e c he hc).1,(h5 e c he hc).2.mem hZ⟩⟩
theorem MatAt.map {Z Z':Zn} {w w':World} {b:Nat} {cp:Cp} {t t2:TypeId} {nb n m2 n2:Nat} {g g':Nat→Nat→List D} (h:MatAt Z w b cp t t2 nb n m2 n2 g) (hb:w'.heap[b]? = w.heap[b]?) (hr:∀ e x c,e<n→cp.r e=some (x,c)→ArrAt Z w x c t2 n2 m2 (g e)→ArrAt Z' w' x c t2 n2 m2 (g' e)):MatAt Z' w' b cp t t2 nb n m2 n2 g':=by
 obtain ⟨cs,h1,h2,h3,h4,h5,h6⟩:=h
 exact ⟨cs,hb.trans h1,h2,h3,h4,fun e he=>(fun ⟨x,c,p1,p2,p3,p4,p5⟩=>⟨x,c,p1,p2,p3,p4,hr e x c he p1 p5⟩) (h5 e he),h6⟩
theorem BoxAt.mem {Z Z':Zn} {w w':World} {i:Nm} {b:Nat} {cap:Cp} {B:Box} (h:BoxAt Z w i b cap B) (hs:w.heap.size≤w'.heap.size) (hb:∀ x,Foot B (some (some (b,cap))) x→w'.heap[x]? = w.heap[x]?) (hZ:∀ o x,Z o x→Z' o x∧w'.heap[x]? = w.heap[x]?):BoxAt Z' w' i b cap B:=by
 have hb0:=hb b (.root rfl)
 cases B with
 | lit t ds=>obtain ⟨cs,h1,h2,h3⟩:=h;exact ⟨cs,hb0.trans h1,h2,fun j hj=>⟨(h3 j hj).1,(h3 j hj).2.mem hZ⟩⟩
 | arr t n m f=>exact ArrAt.mem h hb0 hZ
 | mat t t2 nb n m2 n2 g=>exact MatAt.map h hb0 (fun e x c he hx hA=>ArrAt.mem hA (hb x ⟨b,cap,rfl,.inr ⟨e,c,he,hx⟩⟩) hZ)
 | ice t n m f=>exact h.imp fun _ h=>ArrAt.mem h hb0 hZ
 | gone=>exact Nat.lt_of_lt_of_le h hs
theorem BoxAt.nm {Z:Zn} {w:World} {i i':Nm} {b:Nat} {cap:Cp} {B:Box} {p:Nat→Bool} (h:BoxAt Z w i b cap B) (hf:B.free p=true) (hi:∀ k x,p k=true→i k=some x→i' k=some x):BoxAt Z w i' b cap B:=by
 cases B with
 | lit t ds=>obtain ⟨cs,h1,h2,h3⟩:=h;exact ⟨cs,h1,h2,fun j hj=>⟨(h3 j hj).1,(h3 j hj).2.nm (freeL_at hf j hj) hi⟩⟩
 | _=>exact h
theorem BoxAt.grow {Z:Zn} {w:World} {i i':Nm} {b:Nat} {cap:Cp} {B:Box} (h:BoxAt Z w i b cap B) (hi:∀ k x,i k=some x→∃ y,i' k=some y∧NmLe x y):BoxAt Z w i' b cap B:=by
 cases B with
 | lit t ds=>obtain ⟨cs,h1,h2,h3⟩:=h;exact ⟨cs,h1,h2,fun j hj=>⟨(h3 j hj).1,(h3 j hj).2.grow hi⟩⟩
 | _=>exact h
theorem BoxAt.ext {Z:Zn} {w:World} {i i':Nm} {b:Nat} {cap:Cp} {B:Box} (h:BoxAt Z w i b cap B) (hi:∀ k x,i k=some x→i' k=some x):BoxAt Z w i' b cap B:=by
 cases B with
 | lit t ds=>obtain ⟨cs,h1,h2,h3⟩:=h;exact ⟨cs,h1,h2,fun j hj=>⟨(h3 j hj).1,(h3 j hj).2.ext hi⟩⟩
 | _=>exact h
section
variable {S:Cx} {E E':Nat→D} {H H':Nat→Option Box} {Z Z':Zn} {i i':Nm} {a:Act} {w w':World}
theorem getD_put {ts:Array Value} {d t:Nat} {v u:Value} (h:d<ts.size):(ts.setIfInBounds d v).getD t u=if d=t then v else ts.getD t u:=by
 simp only [Array.getD_eq_getD_getElem?,Array.getElem?_setIfInBounds]
 split
 ·subst_vars;simp [h]
 ·rfl
theorem Fits.put (h:Fits S E H Z i a w) {dst:Option Nat} {v:Value} {r:D} (hd:∀ d,dst=some d→d<fsz S.N) (hr:Rep Z w i v r):Fits S (updE E dst r) H Z i (a.put dst v) w:=by
 cases dst with
 | none=>exact h
 | some d=>
  have hs:=hd d rfl
  refine { h with size:=by simp [Act.put,h.size],env:=fun t=>?_ }
  show Rep Z w i ((a.tmps.setIfInBounds d v).getD t undef) (if d=t then r else E t)
  rw [getD_put (by rw [h.size];exact hs)]
  split
  ·exact hr
  ·exact h.env t
theorem Fits.stepG (h:Fits S E H Z i a w) (L:Nat→Prop) (hos:w'.os=w.os∧w'.tape=w.tape∧w'.output=w.output∧w.heap.size≤w'.heap.size)
  (hk:∀ b,b<w.heap.size→(∀ k B,L k→H k=some B→B.mut=true→¬ Foot B (i k) b)→w'.heap[b]? = w.heap[b]?)
  (hi:∀ k,H k≠none→(¬ L k∨k<1000)→i' k=i k) (hi2:∀ k x,i k=some x→∃ y,i' k=some y∧NmLe x y) (hH:∀ k,¬ L k→H' k=H k) (hn:∀ k,L k→H' k=none→i' k=none) (hn':∀ k,¬ L k→H k=none→i' k=none) (hlo:∀ k,k<1000→H k=none→i' k=none)
  (hZ:∀ o b,Z o b→Z' o b) (hZ2:∀ b,Z' true b→Z true b∨(b<w'.heap.size∧S.w0.heap.size≤b∧(w.heap.size≤b∨∃ k B,L k∧H k=some B∧B.mut=true∧Foot B (i k) b)∧∀ k B,L k→H' k=some B→B.mut=true→¬ Foot B (i' k) b)) (hZ3:∀ b,Z' false b→Z' true b∧S.w0.heap.size≤b)
  (hB:∀ k B,L k→H' k=some B→BoxOk S Z' w' i' k B)
  (hO:∀ k B b,L k→H' k=some B→B.mut=true→Foot B (i' k) b→(w.heap.size≤b∧b<w'.heap.size)∨∃ k2 B2,L k2∧(k2<1000→(∃ c,i k2=some (some (b,c)))→k<1000∧∃ c,i' k=some (some (b,c)))∧H k2=some B2∧B2.mut=true∧Foot B2 (i k2) b)
  (hj:∀ k k' B B' b,L k→L k'→H' k=some B→H' k'=some B'→B.mut=true→B'.mut=true→Foot B (i' k) b→Foot B' (i' k') b→k=k')
  : Fits S E H' Z' i' a w':=by
 have hsz:=h.kept.size
 have hs1:=h.kept1.size
 have hm:∀ o x,Z o x→Z' o x∧w'.heap[x]? = w.heap[x]?:=fun o x hx=>by
  have hxt:Z true x:=by cases o;exact h.zsub x hx;exact hx
  exact ⟨hZ o x hx,hk x (h.zOld x hxt).1 (fun k B _ hB hmu hf=>(h.foot k B x hB hmu hf).2.2.1 hxt)⟩
 have old:∀ k B,¬ L k→H' k=some B→H k=some B∧i' k=i k:=fun k B q hB'=>by
  have:=(hH k q).symm.trans hB'
  exact ⟨this,hi k (by rw [this];simp) (.inl q)⟩
 have hnw:∀ k B b,¬ L k→H k=some B→B.mut=true→Foot B (i k) b→(∀ k2 B2,L k2→H k2=some B2→B2.mut=true→¬ Foot B2 (i k2) b):=fun k B b q hB' hmu hf k2 B2 q2 hB2 hm2 hf2=>q (h.inj k2 k B2 B b hB2 hB' hm2 hmu hf2 hf▸q2)
 have foot':∀ k B b,H' k=some B→B.mut=true→Foot B (i' k) b→b<w'.heap.size∧(S.w0.heap.size≤b∨(k<1000∧S.M b∧∃ c,i' k=some (some (b,c))))∧¬ Z' true b∧(S.w1.heap.size≤b∨S.M1 b):=fun k B b hB' hmu hf=>by
  by_cases q:L k
  ·rcases hO k B b q hB' hmu hf with ⟨p1,p2⟩ | ⟨k2,B2,p1,p2,p3,p4,p5⟩
   ·refine ⟨p2,.inl (by omega),fun hz=>?_,.inl (by omega)⟩
    rcases hZ2 b hz with r | ⟨_,_,_,r⟩
    ·have:=(h.zOld b r).1;omega
    ·exact r k B q hB' hmu hf
   ·have f:=h.foot k2 B2 b p3 p4 p5
    refine ⟨Nat.lt_of_lt_of_le f.1 hos.2.2.2,f.2.1.imp id (fun ⟨x,y,z⟩=>⟨(p2 x z).1,y,(p2 x z).2⟩),fun hz=>?_,f.2.2.2⟩
    rcases hZ2 b hz with r | ⟨_,_,_,r⟩
    ·exact f.2.2.1 r
    ·exact r k B q hB' hmu hf
  ·obtain ⟨g1,g2⟩:=old k B q hB'
   rw [g2] at hf
   have f:=h.foot k B b g1 hmu hf
   refine ⟨Nat.lt_of_lt_of_le f.1 hos.2.2.2,by rw [g2];exact f.2.1,fun hz=>?_,f.2.2.2⟩
   rcases hZ2 b hz with r | ⟨_,_,r | ⟨k2,B2,r1,r2,r3,r4⟩,_⟩
   ·exact f.2.2.1 r
   ·have:=f.1;omega
   ·exact hnw k B b q g1 hmu hf k2 B2 r1 r2 r3 r4
 refine { defers:=?_,size:=h.size,kept:=⟨hos.1.trans h.kept.os,hos.2.1.trans h.kept.tape,hos.2.2.1.trans h.kept.output,Nat.le_trans hsz hos.2.2.2,fun b hb hM=>?_⟩,kept1:=⟨hos.1.trans h.kept1.os,hos.2.1.trans h.kept1.tape,hos.2.2.1.trans h.kept1.output,Nat.le_trans hs1 hos.2.2.2,fun b hb hM=>?_⟩,zk1:=fun o b hb=>hZ o b (h.zk1 o b hb),zsub:=fun b hb=>(hZ3 b hb).1,zOld:=fun b hb=>?_,zNew:=fun b hb=>(hZ3 b hb).2,env:=fun t=>((h.env t).mem hm).grow hi2,box:=fun k B hBk=>?_,foot:=foot',nil:=fun k hk'=>?_,low:=fun k hk'=>?_,inj:=fun k k' B B' b h1 h2 m1 m2 f1 f2=>?_,plain:=h.plain }
 ·obtain ⟨ms,e,hnd,hms⟩:=h.defers
  exact ⟨ms,e,hnd,fun b hb=>⟨(hm _ _ (hms b hb).1).1,(hm _ _ (hms b hb).1).2.trans (hms b hb).2⟩⟩
 ·refine (hk b (by omega) (fun k B _ hB' hmu hf=>?_)).trans (h.kept.block b hb hM)
  rcases (h.foot k B b hB' hmu hf).2.1 with q | ⟨_,q,_⟩
  ·omega
  ·exact hM q
 ·refine (hk b (by omega) (fun k B _ hB' hmu hf=>?_)).trans (h.kept1.block b hb hM)
  rcases (h.foot k B b hB' hmu hf).2.2.2 with q | q
  ·omega
  ·exact hM q
 ·rcases hZ2 b hb with q | ⟨q1,q2,_⟩
  ·exact ⟨Nat.lt_of_lt_of_le (h.zOld b q).1 hos.2.2.2,(h.zOld b q).2⟩
  ·exact ⟨q1,fun e=>by omega⟩
 ·by_cases q:L k
  ·exact hB k B q hBk
  ·obtain ⟨hBk',hik⟩:=old k B q hBk
   rcases h.box k B hBk' with ⟨b,c,e1,e2,e3,e4,e5⟩ | ⟨e1,e2⟩
   ·refine .inl ⟨b,c,hik.trans e1,e2,fun hmu=>⟨(foot' k B b hBk hmu (.root (hik.trans e1))).2.2.1,(e3 hmu).2⟩,fun hic=>hZ _ _ (e4 hic),?_⟩
    by_cases hmu:B.mut=true
    ·exact (e5.mem hos.2.2.2 (fun x hx=>hk x (e5.footLt hx) (hnw k B x q hBk' hmu (e1▸hx))) hm).grow hi2
    ·cases B with
     | gone=>exact Nat.lt_of_lt_of_le e5 hos.2.2.2
     | ice t n m f=>exact e5.imp fun _ e5=>ArrAt.mem e5 (hm _ _ (e4 rfl)).2 hm
     | lit=>exact absurd rfl hmu
     | arr=>exact absurd rfl hmu
     | mat=>exact absurd rfl hmu
   ·exact .inr ⟨hik.trans e1,e2⟩
 ·by_cases q:L k
  ·exact hn k q hk'
  ·exact hn' k q ((hH k q).symm.trans hk')
 ·by_cases q:H k=none
  ·rw [hlo k hk' q,← h.low k hk',h.nil k q]
  ·rw [← h.low k hk'];exact hi k q (.inr hk')
 ·by_cases q:L k
  ·by_cases q':L k'
   ·exact hj k k' B B' b q q' h1 h2 m1 m2 f1 f2
   ·exfalso
    obtain ⟨g1,g2⟩:=old k' B' q' h2
    rw [g2] at f2
    rcases hO k B b q h1 m1 f1 with ⟨p1,_⟩ | ⟨k2,B2,p1,_,p3,p4,p5⟩
    ·have:=(h.foot k' B' b g1 m2 f2).1;omega
    ·exact hnw k' B' b q' g1 m2 f2 k2 B2 p1 p3 p4 p5
  ·obtain ⟨g1,g2⟩:=old k B q h1
   rw [g2] at f1
   by_cases q':L k'
   ·exfalso
    rcases hO k' B' b q' h2 m2 f2 with ⟨p1,_⟩ | ⟨k2,B2,p1,_,p3,p4,p5⟩
    ·have:=(h.foot k B b g1 m1 f1).1;omega
    ·exact hnw k B b q g1 m1 f1 k2 B2 p1 p3 p4 p5
   ·obtain ⟨g1',g2'⟩:=old k' B' q' h2
    rw [g2'] at f2
    exact h.inj k k' B B' b g1 g1' m1 m2 f1 f2
theorem Fits.step (h:Fits S E H Z i a w) (L:Nat→Prop) (hos:w'.os=w.os∧w'.tape=w.tape∧w'.output=w.output∧w.heap.size≤w'.heap.size)
  (hk:∀ b,b<w.heap.size→(∀ k B,L k→H k=some B→B.mut=true→¬ Foot B (i k) b)→w'.heap[b]? = w.heap[b]?)
  (hi:∀ k,H k≠none→i' k=i k) (hH:∀ k,¬ L k→H' k=H k) (hn:∀ k,L k→H' k=none→i' k=none) (hn':∀ k,¬ L k→H k=none→i' k=none) (hlo:∀ k,k<1000→H k=none→i' k=none)
  (hZ:∀ o b,Z o b→Z' o b) (hZ2:∀ b,Z' true b→Z true b∨(b<w'.heap.size∧S.w0.heap.size≤b∧(w.heap.size≤b∨∃ k B,L k∧H k=some B∧B.mut=true∧Foot B (i k) b)∧∀ k B,L k→H' k=some B→B.mut=true→¬ Foot B (i' k) b)) (hZ3:∀ b,Z' false b→Z' true b∧S.w0.heap.size≤b)
  (hB:∀ k B,L k→H' k=some B→BoxOk S Z' w' i' k B)
  (hO:∀ k B b,L k→H' k=some B→B.mut=true→Foot B (i' k) b→(w.heap.size≤b∧b<w'.heap.size)∨∃ k2 B2,L k2∧(k2<1000→(∃ c,i k2=some (some (b,c)))→k<1000∧∃ c,i' k=some (some (b,c)))∧H k2=some B2∧B2.mut=true∧Foot B2 (i k2) b)
  (hj:∀ k k' B B' b,L k→L k'→H' k=some B→H' k'=some B'→B.mut=true→B'.mut=true→Foot B (i' k) b→Foot B' (i' k') b→k=k')
  : Fits S E H' Z' i' a w':=
 h.stepG L hos hk (fun k q _=>hi k q) (fun k x e=>⟨x,(hi k (fun q=>by rw [h.nil k q] at e;cases e)).trans e,.inl rfl⟩) hH hn hn' hlo hZ hZ2 hZ3 hB hO hj
end


class TI (P:Program) (t:TypeId) (i:outParam TypeInfo) (d:outParam TypeDesc):Prop where
 info:P.info? t=some i
 under:P.underlying t=some d
class FI (P:Program) (f:FuncId) (fn:outParam Func):Prop where
 func:P.funcs[f]? = some fn
 enters:∀ args w,(callFunc f args).run P w = .ok (.enter f args) w
structure Rec where
 names:List Nat
 dst:Option Nat
 r:D
 ws:List (Nat × Option Box)
 fresh:List Nat
def slotsOf (o:Oper):List Nat:=o.op.operands.toList.filterMap fun x=>match x with | .tmp t=>some t | _=>none
def Opd (E:Nat→D) (x:Operand) (d:D):Prop:=
 match x with
 | .tmp t=>E t=d
 | .const v=>d = .val v
 | .global g=>d = .val (.pointer (some ⟨g,0,none⟩))
 | .func f=>d = .val (.func (.func f) #[] #[])
def anyE:Nat→D:=fun _=>.any
def RepX (S:Cx) (a:Act) (w:World):Prop:=∃ H,RepS S anyE H a w
def AStep (P:Program) (N:Nat) (o:Oper) (E:Nat→D) (H:Nat→Option Box) (E':Nat→D) (H':Nat→Option Box):Prop:=
 ∀ S a w,S.N=N→RepS S E H a w→∀ (K:Act→World→Prop) (Q:Exit→Act→World→Prop),(∀ ch a' w',S.pan ch→RepX S a' w'→Q (.panic ch) a' w')→(∀ a' w',RepS S E' H' a' w'→K a' w')→o.wp P a w K Q
def Loc (P:Program) (N:Nat) (o:Oper) (E:Nat→D) (H:Nat→Option Box) (R:Rec):Prop:=
 R.dst=o.dst∧(∀ c,o.op ≠ .defer c)∧∀ E1 H1,(∀ t,t∈slotsOf o→E1 t=E t)→(∀ k,k∈R.names→H1 k=H k)→(∀ k,k∈R.fresh→H1 k=none∧1000≤k)→AStep P N o E1 H1 (updE E1 R.dst R.r) (updH H1 R.ws)
def dstLt (o:Oper) (N:Nat):Bool:=match o.dst with | some d=>Nat.blt d (fsz N) | none=>true
theorem dstLt_spec {o:Oper} {N:Nat} (h:dstLt o N=true):∀ d,o.dst=some d→d<fsz N:=by
 intro d hd
 simp only [dstLt,hd,Nat.blt_eq] at h
 exact h
theorem Opd.agree {E E1:Nat→D} {o:Oper} {x:Operand} {d:D} (hx:x∈o.op.operands) (h:∀ t,t∈slotsOf o→E1 t=E t) (hd:Opd E x d):Opd E1 x d:=by
 cases x with
 | tmp t=>exact (h t (List.mem_filterMap.2 ⟨.tmp t,by simpa using hx,rfl⟩)).trans hd
 | _=>exact hd
section
variable {P:Program} {N:Nat} {o:Oper} {E E1:Nat→D} {H H1:Nat→Option Box} {S:Cx} {Z:Zn} {i:Nm} {a:Act} {w:World}
theorem Fits.opd (h:Fits S E H Z i a w) {x:Operand} {d:D} (hx:Opd E x d):Rep Z w i (a.eval x) d:=by
 cases x with
 | tmp t=>obtain rfl:=hx;exact h.env t
 | const v=>obtain rfl:=hx;exact .val _ _
 | global g=>obtain rfl:=hx;exact .val _ _
 | func f=>obtain rfl:=hx;exact .val _ _
theorem loc_run {names:List Nat} {r:D} (hnd:∀ c,o.op ≠ .defer c) (hd:dstLt o N=true)
  (h:∀ (E1:Nat→D) (H1:Nat→Option Box) (S:Cx) (Z:Zn) (i:Nm) (a:Act) (w:World),Fits S E1 H1 Z i a w→(∀ x,x∈o.op.operands→∀ d,Opd E x d→Opd E1 x d)→(∀ k,k∈names→H1 k=H k)→∃ v,(execOp a.eval o).run P w = .ok (.value v) w∧Rep Z w i v r) :
  Loc P N o E H ⟨names,o.dst,r,[],[]⟩:=by
 refine ⟨rfl,hnd,fun E1 H1 h1 h2 _ S a w hN hR K Q _ hK=>?_⟩
 obtain ⟨Z,i,hF⟩:=hR
 obtain ⟨v,hv,hr⟩:=h E1 H1 S Z i a w hF (fun x hx d hd=>hd.agree hx h1) h2
 unfold Oper.wp
 rw [hv]
 exact hK _ _ ⟨Z,i,hF.put (by rw [hN];exact dstLt_spec hd) hr⟩
theorem loc_move {x:Operand} {d:D} (ho:o.op = .move x∨o.op = .assign x) (hd:dstLt o N=true) (hx:Opd E x d):Loc P N o E H ⟨[],o.dst,d,[],[]⟩:=
 loc_run (by rcases ho with ho | ho<;>simp [ho]) hd (fun E1 H1 S Z i a w hF hA _=>by
  refine ⟨a.eval x,?_,hF.opd (hA x (by rcases ho with ho | ho<;>simp [ho,Op.operands]) d hx)⟩
  rcases ho with ho | ho<;>simp [execOp,ho])
theorem loc_pick {c x y:Operand} {t:Bool} {d:D} (ho:o.op = .pick c x y) (hd:dstLt o N=true) (hc:Opd E c (.val (.bool t))) (hx:t=true→Opd E x d) (hy:t=false→Opd E y d):Loc P N o E H ⟨[],o.dst,d,[],[]⟩:=
 loc_run (by simp [ho]) hd (fun E1 H1 S Z i a w hF hA _=>by
  have h1:=(hF.opd (hA c (by simp [ho,Op.operands]) _ hc)).valEq
  have h2:=hF.opd (hA (if t then x else y) (by cases t<;>simp [ho,Op.operands]) d (by cases t;exact hy rfl;exact hx rfl))
  refine ⟨a.eval (if t then x else y),?_,h2⟩
  simp [execOp,ho,h1,asBool]
  cases t<;>simp [Result.andThen])
def when (b:Bool) (d:D):D:=match b with | true=>d | false=>.val undef
theorem loc_and {c x:Operand} {s t:Bool} (ho:o.op = .pick c x (.const (.bool false))) (hd:dstLt o N=true) (hc:Opd E c (.val (.bool s))) (hx:Opd E x (when (s == true) (.val (.bool t)))):Loc P N o E H ⟨[],o.dst,.val (.bool (s && t)),[],[]⟩:=
 loc_pick ho hd hc (fun e=>by subst e;exact hx) (fun e=>by subst e;rfl)
theorem loc_or {c x:Operand} {s t:Bool} (ho:o.op = .pick c (.const (.bool true)) x) (hd:dstLt o N=true) (hc:Opd E c (.val (.bool s))) (hx:Opd E x (when (s == false) (.val (.bool t)))):Loc P N o E H ⟨[],o.dst,.val (.bool (s || t)),[],[]⟩:=
 loc_pick ho hd hc (fun e=>by subst e;rfl) (fun e=>by subst e;exact hx)
theorem loc_bin {op:BinOp} {t ty:TypeId} {x y:Operand} {vx vy r:Value} (ho:o.op = .binOp op t x y ty) (hd:dstLt o N=true) (hx:Opd E x (.val vx)) (hy:Opd E y (.val vy))
  (hr:∀ w,(do eqGuard op t x y vx vy;binOp op t vx vy:Sem Value).run P w = .ok r w):Loc P N o E H ⟨[],o.dst,.val r,[],[]⟩:=
 loc_run (by simp [ho]) hd (fun E1 H1 S Z i a w hF hA _=>by
  have h1:=(hF.opd (hA x (by simp [ho,Op.operands]) _ hx)).valEq
  have h2:=(hF.opd (hA y (by simp [ho,Op.operands]) _ hy)).valEq
  have h3:=hr w
  refine ⟨r,?_,.val _ _⟩
  simp only [execOp,ho,h1,h2]
  rw [Sem.run_bind,h3]
  rfl)
theorem loc_un {op:UnOp} {t:TypeId} {x:Operand} {vx r:Value} (ho:o.op = .unOp op t x) (hd:dstLt o N=true) (hx:Opd E x (.val vx)) (hr:∀ w,(Op.unary op vx).run P w = .ok r w):Loc P N o E H ⟨[],o.dst,.val r,[],[]⟩:=
 loc_run (by simp [ho]) hd (fun E1 H1 S Z i a w hF hA _=>by
  have h1:=(hF.opd (hA x (by simp [ho,Op.operands]) _ hx)).valEq
  refine ⟨r,?_,.val _ _⟩
  simp only [execOp,ho,h1]
  rw [Sem.run_bind,hr w]
  rfl)
theorem loc_conv {s t:TypeId} {x:Operand} {vx r:Value} (ho:o.op = .convert s t x) (hd:dstLt o N=true) (hx:Opd E x (.val vx)) (hr:∀ w,(convert s t vx).run P w = .ok r w):Loc P N o E H ⟨[],o.dst,.val r,[],[]⟩:=
 loc_run (by simp [ho]) hd (fun E1 H1 S Z i a w hF hA _=>by
  have h1:=(hF.opd (hA x (by simp [ho,Op.operands]) _ hx)).valEq
  refine ⟨r,?_,.val _ _⟩
  simp only [execOp,ho,h1]
  rw [Sem.run_bind,hr w]
  rfl)
theorem loc_extract {x:Operand} {ix:Nat} {l:List D} (ho:o.op = .extract x ix) (hd:dstLt o N=true) (hx:Opd E x (.tup l)) (hi:Nat.blt ix l.length=true):Loc P N o E H ⟨[],o.dst,dl l ix,[],[]⟩:=
 loc_run (by simp [ho]) hd (fun E1 H1 S Z i a w hF hA _=>by
  have h1:=hF.opd (hA x (by simp [ho,Op.operands]) _ hx)
  replace hi:ix<l.length:=by simpa using hi
  generalize hv:a.eval x=v at h1
  cases h1 with | tup _ vs _ hl hr=>
  refine ⟨vs.getD ix undef,?_,hr ix hi⟩
  simp only [execOp,ho,hv,Instr.extract]
  have:vs.toArray[ix]? = some (vs.getD ix undef):=by rw [List.getElem?_toArray,List.getD_eq_getElem?_getD,List.getElem?_eq_getElem (by omega)];rfl
  rw [this]
  rfl)
def LoadIs (P:Program) (t:TypeId) (n:Nat) (ag:Bool):Prop:=(ag=false→n=1)∧∀ (ad:Addr) (cs:Nat→Value) (w:World),(∀ j,j<n→w.cell? (ad.add j)=some (cs j))→(loadVar t ad).run P w = .ok (if ag then .agg ((List.range n).map cs).toArray else cs 0) w
def isAggD:TypeDesc→Bool
 | .struct _=>true
 | .array _ _=>true
 | _=>false
theorem LoadIs.mk {t:TypeId} {info:TypeInfo} {d:TypeDesc} [hT:TI P t info d]:LoadIs P t (match isAggD d with | true=>info.size | false=>1) (isAggD d):=by
 have hu:=hT.under
 have hi:=hT.info
 refine ⟨fun h=>by rw [h],fun ad cs w hc=>?_⟩
 have h2:(sizeOf t).run P w = .ok info.size w:=by simp [sizeOf,typeInfo,hi,Result.andThen]
 cases hd:isAggD d with
 | true=>
  rw [hd] at hc
  unfold loadVar isAgg
  cases d<;>simp [isAggD] at hd<;>simp [run_underlying hu,Result.andThen,h2,run_loadCells w ad info.size cs hc]
 | false=>
  rw [hd] at hc
  have h0:=hc 0 (by simp)
  rw [show ad.add 0=ad by simp [Addr.add]] at h0
  unfold loadVar isAgg
  cases d<;>simp_all [run_underlying hu,Result.andThen,isAggD]
def ldD (ag:Bool) (l:List D):D:=match ag with | true=>.agg l | false=>dl l 0
def takeL:Nat→List D→List D
 | 0,_=>[]
 | _+1,[]=>[]
 | n+1,d::l=>d::takeL n l
def dropL:Nat→List D→List D
 | 0,l=>l
 | _+1,[]=>[]
 | n+1,_::l=>dropL n l
theorem takeL_eq:∀ (n:Nat) (l:List D),takeL n l=l.take n
 | 0,l=>by simp [takeL]
 | _+1,[]=>rfl
 | n+1,d::l=>by simp [takeL,takeL_eq n l]
theorem dropL_eq:∀ (n:Nat) (l:List D),dropL n l=l.drop n
 | 0,l=>by simp [dropL]
 | _+1,[]=>rfl
 | n+1,d::l=>by simp [dropL,dropL_eq n l]
theorem dl_seg {l:List D} {c n j:Nat} (hj:j<n):dl (takeL n (dropL c l)) j=dl l (c+j):=by
 rw [takeL_eq,dropL_eq,dl_eq,dl_eq,List.getD_eq_getElem?_getD,List.getD_eq_getElem?_getD,List.getElem?_take,if_pos hj,List.getElem?_drop]
theorem dl_drop {l:List D} {c j:Nat}:dl (dropL c l) j=dl l (c+j):=by
 rw [dropL_eq,dl_eq,dl_eq,List.getD_eq_getElem?_getD,List.getD_eq_getElem?_getD,List.getElem?_drop]
theorem len_seg {l:List D} {c n:Nat} (h:c+n≤l.length):(takeL n (dropL c l)).length=n:=by
 rw [takeL_eq,dropL_eq];simp;omega
theorem ldD_rep {ag:Bool} {n:Nat} {l:List D} {cs:Nat→Value} (h0:ag=false→n=1) (hl:l.length=n) (h:∀ j,j<n→(cs j).oneCell'=true∧Rep Z w i (cs j) (dl l j)):Rep Z w i (if ag then .agg ((List.range n).map cs).toArray else cs 0) (ldD ag l):=by
 cases ag with
 | false=>exact (h 0 (by rw [h0 rfl];omega)).2
 | true=>
  have hg:∀ j,j<l.length→((List.range n).map cs).getD j undef=cs j:=fun j hj=>by
   rw [List.getD_eq_getElem?_getD,List.getElem?_map,List.getElem?_range (by omega)];rfl
  exact .agg i _ l (by simp [hl]) (fun j hj=>by rw [hg j hj];exact (h j (by omega)).1) (fun j hj=>by rw [hg j hj];exact (h j (by omega)).2)
theorem run_loadOp {t:TypeId} {x:Operand} {n:Nat} {ag:Bool} {ad:Addr} {cs:Nat→Value} (ho:o.op = .load t x) (hL:LoadIs P t n ag) (hx:a.eval x = .pointer (some ad)) (hc:∀ j,j<n→w.cell? (ad.add j)=some (cs j)):(execOp a.eval o).run P w = .ok (.value (if ag then .agg ((List.range n).map cs).toArray else cs 0)) w:=by
 have h:=hL.2 ad cs w hc
 simp only [execOp,ho,hx,Instr.loadAt,Instr.sureAddr]
 simp only [pure_bind,Sem.run_bind,h]
 rfl
theorem addr_add (b o j:Nat):(⟨b,o,none⟩:Addr).add j=⟨b,o+j,none⟩:=by
 unfold Addr.add;split
 ·subst_vars;rfl
 ·rfl
theorem loc_load_lit {t t':TypeId} {x:Operand} {k n m e c:Nat} {ag:Bool} {ds:List D} (ho:o.op = .load t x) (hd:dstLt o N=true) (hL:LoadIs P t n ag) (hx:Opd E x (.eptr k m e c)) (he:e*m=0) (hk:H k=some (.lit t' ds)) (hc:Nat.ble (c+n) ds.length=true):Loc P N o E H ⟨[k],o.dst,ldD ag (takeL n (dropL c ds)),[],[]⟩:=
 loc_run (by simp [ho]) hd (fun E1 H1 S Z i a w hF hA hN=>by
  have h1:=hF.opd (hA x (by simp [ho,Op.operands]) _ hx)
  replace hc:=Nat.le_of_ble_eq_true hc
  generalize hv:a.eval x=v at h1
  cases h1 with | @eptr _ b _ _ _ _ _ hib=>
  have hk1:=hN k (by simp)
  rw [hk] at hk1
  rcases hF.box k _ hk1 with ⟨b',_,e1,_,_,_,cs,hB,hs,hall⟩ | ⟨q,_⟩
  ·rw [hib] at e1;cases e1
   refine ⟨_,run_loadOp ho hL hv (cs:=fun j=>cs.getD (c+j) undef) (fun j hj=>?_),ldD_rep hL.1 (len_seg hc) (fun j hj=>by rw [dl_seg hj];exact hall (c+j) (by omega))⟩
   rw [addr_add,he,Nat.zero_add]
   exact hB.cell _ (by omega)
  ·rw [hib] at q;cases q)
theorem ArrAt.cellAt {b cap:Nat} {t:TypeId} {n m e c:Nat} {f:Nat→List D} (h:ArrAt Z w b cap t n m f) (he:e<n) (hc:c<m):∃ v,w.cell? ⟨b,e*m+c,none⟩=some v∧v.oneCell'=true∧Rep Z w noN v (dl (f e) c):=by
 obtain ⟨cs,hB,hs,hn,_,hall⟩:=h
 have hlt:e*m+c<cs.size:=by
  rw [hs]
  have:(e+1)*m≤cap*m:=Nat.mul_le_mul_right m (by omega)
  rw [Nat.add_mul] at this
  omega
 exact ⟨_,hB.cell _ hlt,hall e c he hc⟩
def isArr (B:Option Box) (n m:Nat) (f:Nat→List D):Prop:=∃ t,B=some (.arr t n m f)∨B=some (.ice t n m f)
theorem Fits.arr (h:Fits S E H Z i a w) {k n m b:Nat} {cap:Cp} {f:Nat→List D} (hk:isArr (H k) n m f) (hi:i k=some (some (b,cap))):∃ t cap,ArrAt Z w b cap t n m f:=by
 obtain ⟨t,hk | hk⟩:=hk
 ·rcases h.box k _ hk with ⟨b',c',e1,_,_,_,h5⟩ | ⟨q,_⟩
  ·rw [hi] at e1;cases e1;exact ⟨t,_,h5⟩
  ·rw [hi] at q;cases q
 ·rcases h.box k _ hk with ⟨b',c',e1,_,_,_,h5⟩ | ⟨q,_⟩
  ·rw [hi] at e1;cases e1;exact ⟨t,h5⟩
  ·rw [hi] at q;cases q
theorem loc_load_arr {t:TypeId} {x:Operand} {k n n' m e c:Nat} {ag:Bool} {f:Nat→List D} (ho:o.op = .load t x) (hd:dstLt o N=true) (hL:LoadIs P t n ag) (hx:Opd E x (.eptr k m e c)) (hk:isArr (H k) n' m f) (hc:Nat.ble (c+n) m=true) (he:e<n'):Loc P N o E H ⟨[k],o.dst,ldD ag (takeL n (dropL c (f e))),[],[]⟩:=
 loc_run (by simp [ho]) hd (fun E1 H1 S Z i a w hF hA hN=>by
  have h1:=hF.opd (hA x (by simp [ho,Op.operands]) _ hx)
  replace hc:=Nat.le_of_ble_eq_true hc
  generalize hv:a.eval x=v at h1
  cases h1 with | @eptr _ b cp _ _ _ _ hib=>
  have hk1:=hN k (by simp)
  obtain ⟨t',cp,hAr⟩:=hF.arr (hk1.symm▸hk) hib
  have hfl:(f e).length=m:=by obtain ⟨_,_,_,_,h,_⟩:=hAr;exact h e he
  have hcell:∀ j,j<n→∃ v,w.cell? ⟨b,e*m+(c+j),none⟩=some v∧v.oneCell'=true∧Rep Z w noN v (dl (f e) (c+j)):=fun j hj=>hAr.cellAt he (by omega)
  refine ⟨_,run_loadOp ho hL hv (cs:=fun j=>(w.cell? ⟨b,e*m+(c+j),none⟩).getD undef) (fun j hj=>?_),ldD_rep hL.1 (len_seg (by omega)) (fun j hj=>?_)⟩
  ·obtain ⟨v,h1,_⟩:=hcell j hj
   rw [addr_add,Nat.add_assoc,h1];rfl
  ·obtain ⟨v,h1,h2,h3⟩:=hcell j hj
   rw [dl_seg hj,h1]
   exact ⟨h2,h3.of_noN⟩)
theorem loc_load_fz {t:TypeId} {x:Operand} {n:Nat} {ag q:Bool} {l:List D} (ho:o.op = .load t x) (hd:dstLt o N=true) (hL:LoadIs P t n ag) (hx:Opd E x (.fptr q l)) (hn:n≤l.length):Loc P N o E H ⟨[],o.dst,ldD ag (takeL n l),[],[]⟩:=
 loc_run (by simp [ho]) hd (fun E1 H1 S Z i a w hF hA hN=>by
  have h1:=hF.opd (hA x (by simp [ho,Op.operands]) _ hx)
  generalize hv:a.eval x=v at h1
  cases h1 with | fptr _ _ b o' _ vs ha hr=>
  have e0:takeL n l=takeL n (dropL 0 l):=rfl
  refine ⟨_,run_loadOp ho hL hv (cs:=vs) (fun j hj=>?_),ldD_rep hL.1 (by rw [e0];exact len_seg (by omega)) (fun j hj=>⟨(ha j (by omega)).2.2,?_⟩)⟩
  ·rw [addr_add]
   exact (ha j (by omega)).2.1
  ·rw [e0,dl_seg hj,Nat.zero_add]
   exact (hr j (by omega)).of_noN)
def FieldIs (P:Program) (s:TypeId) (f off:Nat):Prop:=∀ (ad:Addr) (w:World),(Instr.fieldAt s (.pointer (some ad)) f).run P w = .ok (.pointer (some (ad.add off))) w
theorem FieldIs.mk {s:TypeId} {f:Nat} {info info':TypeInfo} {fs:Array Field} {d':TypeDesc} {fl:Field} [hT:TI P s info (.struct fs)] (hf:fs[f]? = some fl) [hT':TI P fl.type info' d'] (h0:(info'.size == 0)=false):FieldIs P s f fl.offset:=by
 intro ad w
 have h2:(sizeOf fl.type).run P w = .ok info'.size w:=by simp [sizeOf,typeInfo,hT'.info,Result.andThen]
 have h3:¬ info'.size=0:=by simpa using h0
 simp [Instr.fieldAt,run_underlying hT.under,Result.andThen,hf,Instr.sureAddr,fieldPlace,h2,h3]
theorem run_fieldOp {s:TypeId} {x:Operand} {f off:Nat} {ad:Addr} (ho:o.op = .fieldAddr s x f) (hL:FieldIs P s f off) (hx:a.eval x = .pointer (some ad)):(execOp a.eval o).run P w = .ok (.value (.pointer (some (ad.add off)))) w:=by
 simp only [execOp,ho,hx]
 rw [Sem.run_bind,hL ad w]
 rfl
theorem loc_field {s:TypeId} {x:Operand} {f off k m e c:Nat} (ho:o.op = .fieldAddr s x f) (hd:dstLt o N=true) (hL:FieldIs P s f off) (hx:Opd E x (.eptr k m e c)):Loc P N o E H ⟨[],o.dst,.eptr k m e (c+off),[],[]⟩:=
 loc_run (by simp [ho]) hd (fun E1 H1 S Z i a w hF hA hN=>by
  have h1:=hF.opd (hA x (by simp [ho,Op.operands]) _ hx)
  generalize hv:a.eval x=v at h1
  cases h1 with | @eptr _ b _ _ _ _ _ hib=>
  refine ⟨_,run_fieldOp ho hL hv,?_⟩
  rw [addr_add,Nat.add_assoc]
  exact .eptr _ _ _ _ _ hib)
theorem loc_field_fz {s:TypeId} {x:Operand} {f off:Nat} {q:Bool} {l:List D} (ho:o.op = .fieldAddr s x f) (hd:dstLt o N=true) (hL:FieldIs P s f off) (hx:Opd E x (.fptr q l)):Loc P N o E H ⟨[],o.dst,.fptr q (dropL off l),[],[]⟩:=
 loc_run (by simp [ho]) hd (fun E1 H1 S Z i a w hF hA hN=>by
  have h1:=hF.opd (hA x (by simp [ho,Op.operands]) _ hx)
  generalize hv:a.eval x=v at h1
  cases h1 with | fptr _ _ b o' _ vs ha hr=>
  refine ⟨_,run_fieldOp ho hL hv,?_⟩
  rw [addr_add]
  have hl:(dropL off l).length=l.length - off:=by rw [dropL_eq];simp
  exact .fptr _ _ _ _ _ (fun j=>vs (off+j)) (fun j hj=>by rw [Nat.add_assoc];exact ha _ (by omega)) (fun j hj=>by rw [dl_drop];exact hr _ (by omega)))
def PartIs (P:Program) (t:TypeId) (n:Nat) (ag:Bool):Prop:=(ag=false→n=1)∧∀ (vs:List Value) (off:Nat) (w:World),off+n≤vs.length→(part t vs.toArray off).run P w = .ok (if ag then .agg ((List.range n).map fun j=>vs.getD (off+j) undef).toArray else vs.getD off undef) w
theorem loc_fieldV {s:TypeId} {x:Operand} {f n:Nat} {ag:Bool} {l:List D} {info:TypeInfo} {fs:Array Field} {fl:Field} (ho:o.op = .field s x f) (hd:dstLt o N=true) [hT:TI P s info (.struct fs)] (hf:fs[f]? = some fl) (hP:PartIs P fl.type n ag) (hx:Opd E x (.agg l)) (hc:Nat.ble (fl.offset+n) l.length=true):Loc P N o E H ⟨[],o.dst,ldD ag (takeL n (dropL fl.offset l)),[],[]⟩:=
 loc_run (by simp [ho]) hd (fun E1 H1 S Z i a w hF hA hN=>by
  have h1:=hF.opd (hA x (by simp [ho,Op.operands]) _ hx)
  replace hc:=Nat.le_of_ble_eq_true hc
  generalize hv:a.eval x=v at h1
  cases h1 with | agg _ vs _ hl h1 hr=>
  have hp:=hP.2 vs fl.offset w (by omega)
  have:=ldD_rep (Z:=Z) (w:=w) (i:=i) (cs:=fun j=>vs.getD (fl.offset+j) undef) hP.1 (len_seg hc) (fun j hj=>⟨h1 _ (by omega),by rw [dl_seg hj];exact hr _ (by omega)⟩)
  refine ⟨_,?_,this⟩
  simp only [execOp,ho,hv,Instr.field]
  simp [run_underlying hT.under,Result.andThen,hf,asAgg,hp])
def IndexIs (P:Program) (t:TypeId) (m:Nat):Prop:=∀ (b o len cap:Nat) (k:IntKind) (e:Nat) (w:World),e<len→(Instr.indexAt t (.slice (some ⟨b,o,none⟩) len cap) (.int k (e:Int))).run P w = .ok (.pointer (some ⟨b,o+e*m,none⟩)) w
end


def lenBits (n:Nat):Nat:=if n=0 then 0 else Nat.log2 n+1

theorem lenBits_half {n:Nat} (h:0<n):lenBits n=lenBits (n / 2)+1:=by
 unfold lenBits
 rw [if_neg (by omega)]
 by_cases h2:n / 2=0
 ·rw [if_pos h2]
  have:n=1:=by omega
  subst this;rfl
 ·rw [if_neg h2]
  have hn:2≤n:=by omega
  rw [Nat.log2_def,if_pos hn]
theorem lenBits_le {n k:Nat} (h:n<2 ^ k):lenBits n≤k:=by
 unfold lenBits
 by_cases h0:n=0
 ·rw [if_pos h0];omega
 ·rw [if_neg h0]
  have:=(Nat.log2_lt h0).2 h
  omega

end Go.Proofs.YtdcenblblimkfaaGreat
