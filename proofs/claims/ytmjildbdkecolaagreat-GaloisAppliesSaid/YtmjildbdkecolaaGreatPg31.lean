/- The reference's supply: a number below n; New, Left, Taken, Skip, Bits, Below.
Results that are lists: what Uniform, Ternary and Bounded come to; the zero rows that they make.
The reference's supply: Uniform.
The reference's supply: Bounded. -/
import Derived.Test.YtmjildbdkecolaaGreatPg22
import Derived.Test.YtmjildbdkecolaaGreatPg01
import Derived.Test.YtmjildbdkecolaaGreatRows
import Derived.Test.YtmjildbdkecolaaGreatPg30
import Derived.Deep.LoopGhost
import Derived.Lib.Hide
import Derived.WalkKit
import Derived.WalkSpells
import Derived.WalkLawsBesides
import Derived.BigQuiet
import Derived.Outline
import Derived.Defers
import Derived.Shelf.Abstract
import Derived.Deep.OwnRows
set_option linter.unusedSimpArgs false
set_option linter.unusedVariables false
set_option linter.unnecessarySimpa false
set_option linter.unusedSectionVars false
namespace Go.Proofs.YtmjildbdkecolaaGreat
open Go.RowKit Go.Shelf

def RBelowPost (w:World) (b:Nat) (s:ByteArray) (r:Option (Nat × Nat)) (e:Ending) (w':World):Prop:=
 match r with
 | some (v,d)=>e = .returned (.tuple #[.int .u64 v,.bool true])∧RefAt w' b s d∧w.grownBy w' (some b)
 | none=>e = .returned (.tuple #[.int .u64 0,.bool false])∧(∃ d,d≤8*s.size∧RefAt w' b s d)∧w.grownBy w' (some b)

set_option maxHeartbeats 1000000 in
theorem rbelow_any (b:Nat) (s:ByteArray) (c n:Nat) (w:World) (hs:s.size≤1048576) (hc:c≤8*s.size) (hn:1≤n) (hn2:n≤18446744073709551615) (hS:RefAt w b s c) :
  Calls Tryz.prog 152 #[.pointer (some ⟨b,0,none⟩),.int .u64 n] w (RBelowPost w b s (belowL s n c)):=by
 obtain ⟨r,hr⟩:∃ r,belowL s n c=r:=⟨_,rfl⟩
 rw [hr]
 have HR:=Lib.hid hr
 clear hr
 have hk64':lenBits (n - 1)≤64:=lenBits_le (by omega)
 obtain ⟨k,hk⟩:∃ k,lenBits (n - 1)=k:=⟨_,rfl⟩
 have hk64:k≤64:=by omega
 have HK:=Lib.hid hk
 clear hk hk64'
 go_enter Tryz.func152,Tryz.ntmps152
 go_wp2
 go_loop [6,7] (fun i m=>∃ j x:Nat,i = .int .i64 j∧m = .int .u64 x∧x≤18446744073709551615∧j≤64∧Hid (j+lenBits x=k)) (fun _ m=>(intOf m).toNat)
 case atStart=>exact ⟨0,n - 1,rfl,by go_num,by omega,by omega,Lib.hid (by rw [Nat.zero_add];exact HK.out)⟩
 case round=>
  obtain ⟨j,x,rfl,rfl,hx,hj,HJ⟩:=hrel
  by_cases hx0:0<x
  ·have hj1:j+1≤64:=by have h1:=HJ.out;have h2:=lenBits_pos hx0;omega
   go_wp2
   go_round
   case rel=>exact ⟨j+1,x / 2,by go_num,by go_num,by omega,by omega,Lib.hid (by have h1:=HJ.out;have h2:=lenBits_half hx0;omega)⟩
   case measure=>simp [intOf];omega
  ·have hjk:j=k:=by
    have h1:=HJ.out
    have:x=0:=by omega
    subst this
    rw [lenBits_zero] at h1;omega
   subst hjk
   go_wp2
   go_loopg [8,9] (8*s.size - c) (fun g _ _ wr=>∃ d:Nat,d≤8*s.size∧Hid (g=8*s.size - d)∧Hid (belowL s n d=r)∧RefAt wr b s d∧w.grownBy wr (some b))
   case atStart=>exact ⟨c,hc,Lib.hid rfl,HR,hS,only_refl _ _⟩
   case round=>
    obtain ⟨d,hd,HG,HB,hSr,hg⟩:=hrel
    by_cases hlt:8*s.size<d+j
    ·have hb:=belowL_none (s:=s) (n:=n) hd (by rw [HK.out];exact hlt)
     have Hb:=Lib.hid hb
     clear hb
     go_wp2_with fail
     refine (rsome_no b s d j _ hs hk64 hd hlt hSr).mono ?_
     rintro e w1 ⟨rfl,hS1,hg1⟩
     go_wp2
     go_ret2
     rw [← HB.out,Hb.out]
     exact ⟨rfl,⟨_,Nat.le_refl _,hS1⟩,only_trans hg hg1⟩
    ·have hle:d+j≤8*s.size:=by omega
     by_cases hv:valAt s d j<n
     ·have Hb:Hid (belowL s n d=some (valAt s d j,d+j)):=by
       have:=belowL_some (s:=s) (n:=n) (a:=d) (by rw [HK.out];exact hle) (by rw [HK.out];exact hv)
       rw [HK.out] at this
       exact this
      go_wp2_with fail
      refine (rsome_yes b s d j _ hs hk64 hle hSr).mono ?_
      rintro e w1 ⟨rfl,hS1,hg1⟩
      go_wp2
      go_ret2
      rw [← HB.out,Hb.out]
      exact ⟨rfl,hS1,only_trans hg hg1⟩
     ·have hk0:0<j:=by
       rcases Nat.eq_zero_or_pos j with h0 | h0
       ·exfalso;apply hv;rw [h0];exact hn
       ·exact h0
      have Hb:Hid (belowL s n d=belowL s n (d+j)):=by
       have:=belowL_again (s:=s) (n:=n) (a:=d) hn (by rw [HK.out];exact hle) (by rw [HK.out];exact hv)
       rw [HK.out] at this
       exact this
      go_wp2_with fail
      refine (rsome_yes b s d j _ hs hk64 hle hSr).mono ?_
      rintro e w1 ⟨rfl,hS1,hg1⟩
      go_wp2
      go_roundg (8*s.size - (d+j))
      case measure=>have:=HG.out;omega
      case rel=>exact ⟨d+j,hle,Lib.hid rfl,Lib.hid (Hb.out.symm.trans HB.out),hS1,only_trans hg hg1⟩


theorem s_info_u32:(Tryz.prog.info? 22).map (fun i=>(i.zero,i.size,i.bytes))=some (some (.int .u32 0),1,4):=by kernel_rfl
theorem info_i64:(Tryz.prog.info? 2).map (fun i=>(i.zero,i.size,i.bytes))=some (some (.int .i64 0),1,8):=by kernel_rfl
def uniformR (s:ByteArray) (c:Nat) (n:Int) (q:Nat):List Int × Int × Nat:=if n<0∨4096<n∨q<1 then ([],2,c) else match tkL s q n.toNat c with
 | some (l,d)=>(l.map (fun v:Nat=>(v:Int)),0,d)
 | none=>([],4,c)
def boundedR (s:ByteArray) (c:Nat) (n:Int) (q:Nat):List Int × Int × Nat:=if n<0∨4096<n∨2147483647<q then ([],2,c) else match tkL s (2*q+1) n.toNat c with
 | some (l,d)=>(l.map (fun v:Nat=>(v:Int) - (q:Int)),0,d)
 | none=>([],4,c)


def RListPost (w:World) (b:Nat) (s:ByteArray) (e:TypeId) (kd:IntKind) (r:List Int × Int × Nat) (en:Ending) (w':World):Prop:=
 ∃ v,en = .returned (.tuple #[v,.int .i64 r.2.1])∧w'.ownsRow 0 e 1 v r.1.length (r.1.map (Value.int kd))∧(∀ k,v.ownBlock=some k→w.heap.size≤k)∧RefAt w' b s r.2.2∧STurn w w' [b]
theorem rlistPost_nil {w w':World} {b:Nat} {s:ByteArray} {e:TypeId} {kd:IntKind} {er:Int} {d:Nat} (h:RefAt w' b s d) (ht:STurn w w' [b]) :
  RListPost w b s e kd ([],er,d) (.returned (.tuple #[.slice none 0 0,.int .i64 er])) w':=
 ⟨_,rfl,World.ownsRow_nil _ _ _ _,fun k hk=>by simp [Value.ownBlock] at hk,h,ht⟩
theorem owns_base {w:World} {base:Nat} {e:TypeId} {size n:Nat} {v:Value} {xs:List Value} (h:w.ownsRow base e size v n xs):w.ownsRow 0 e size v n xs:=by
 refine ⟨h.1,?_⟩
 rcases h.2 with h2 | ⟨g,cap,cur,hv,hb,hh,r⟩
 ·exact .inl h2
 ·exact .inr ⟨g,cap,cur,hv,Nat.zero_le _,hh,r⟩

set_option maxRecDepth 100000 in
set_option maxHeartbeats 4000000 in
theorem runiform (b:Nat) (s:ByteArray) (c q:Nat) (n:Int) (w:World) (hs:s.size≤1048576) (hc:c≤8*s.size) (hq:q≤4294967295) (hS:RefAt w b s c) :
  Calls Tryz.prog 151 #[.pointer (some ⟨b,0,none⟩),.int .i64 n,.int .u32 q] w (RListPost w b s 22 .u32 (uniformR s c n q)):=by
 have h0:=hS.c1
 have hb:=hS.lt
 obtain ⟨i0,hi,hz0,hz1,hz2⟩:=info_parts s_info_u32
 obtain ⟨r,hr⟩:∃ r,uniformR s c n q=r:=⟨_,rfl⟩
 rw [hr]
 have HR:=Lib.hid hr
 clear hr
 by_cases h1:n<0∨4096<n∨q<1
 ·have e:r=([],2,c):=by rw [← HR.out,uniformR,if_pos h1]
  subst e
  by_cases h2:n<0
  ·go_enter Tryz.func151,Tryz.ntmps151
   go_wp2
   go_ret2
   exact rlistPost_nil hS (STurn.refl _ _)
  by_cases h3:4096<n
  ·go_enter Tryz.func151,Tryz.ntmps151
   go_wp2
   go_ret2
   exact rlistPost_nil hS (STurn.refl _ _)
  ·have h4:q<1:=by omega
   clear h1
   go_enter Tryz.func151,Tryz.ntmps151
   go_wp2
   go_ret2
   exact rlistPost_nil hS (STurn.refl _ _)
 ·have e:r=uniformR s c n q:=HR.out.symm
  rw [uniformR,if_neg h1] at e
  have h2:¬ n<0:=by omega
  have h3:¬ 4096<n:=by omega
  have h4:¬ q<1:=by omega
  clear h1
  obtain ⟨k,rfl⟩:=Int.eq_ofNat_of_zero_le (show 0≤n by omega)
  rw [Int.toNat_natCast] at e
  have HE:=Lib.hid e
  clear e
  go_enter Tryz.func151,Tryz.ntmps151
  go_wp2
  go_loopw [9,10] (fun v i wr=>∃ (j d:Nat) (l:List Nat),j≤k∧i = .int .i64 j∧d≤8*s.size∧Hid (tkL s q j c=some (l,d))∧RefAt wr b s d∧wr.ownsRow w.heap.size 22 1 v j ((l.map (fun v:Nat=>(v:Int))).map (Value.int .u32))∧STurn w wr [b]) (fun _ i _=>k - (intOf i).toNat)
  case atStart=>exact ⟨0,c,[],Nat.zero_le _,rfl,hc,Lib.hid rfl,hS,World.ownsRow_nil _ _ _ _,STurn.refl _ _⟩
  case round=>
   obtain ⟨j,d,l,hj,rfl,hd,HT,hSr,hown,hT⟩:=hrel
   by_cases hlt:j<k
   ·have H:=rbelow_any b s d q _ hs hd (by omega) (by omega) hSr
    rcases hL:belowL s q d with _ | ⟨x,d'⟩
    ·rw [hL] at H
     have HH:=Lib.hid H
     have HL:=Lib.hid hL
     clear H hL
     go_wp2_with fail
     refine HH.out.mono ?_
     rintro e w1 ⟨rfl,⟨d2,hd2,hS1⟩,hg⟩
     have k1:=hS1.c1
     have k2:=hS1.f1
     go_wp2
     go_ret2
     have hn:=tkL_none (tkL_stop HT.out HL.out) k (by omega)
     have e:r=([],4,c):=by rw [HE.out,hn]
     subst e
     exact rlistPost_nil (hS1.set c) ((hT.trans (STurn.of_grown hg (by simp))).setCell (.inl (by simp)) _)
    ·rw [hL] at H
     have hbs:=belowL_spec hL
     have HH:=Lib.hid H
     have HL:=Lib.hid hL
     clear H hL
     have hx:x≤4294967295:=by omega
     go_wp2_with fail
     refine HH.out.mono ?_
     rintro e w1 ⟨rfl,hS1,hg⟩
     have hvb:=hown.lt
     have hown1:=hown.kept hg (.inr (fun e=>by have:=hvb b e;omega))
     have hT1:=hT.trans (STurn.of_grown hg (S:=[b]) (by simp))
     have hw1:=hT1.size
     have HV:=Lib.hid hvb
     clear hvb
     go_wp2_with (at_builtin;refine wpList_append_own _ rfl _ _ 23 rfl w.heap.size 22 i0 (.int .u32 0) 1 4 Tryz.underlying23 hi hz0 hz1 hz2 rfl (by decide) _ _ _ rfl (hown1.alloc _) ⟨w1.heap.size,0,none⟩ 1 1 [.int .u32 x] rfl rfl ?c1 ?c2 ?c3 ?c4 ?c5 ?_)
     case c1=>
      intro t u ht
      match t,ht with
      | 0,ht=>simp at ht;subst ht;simp [Addr.add]
     case c2=>intro u hu;simp at hu;subst hu;rfl
     case c3=>unfold maxLen;omega
     case c4=>omega
     case c5=>simp;omega
     ·intro v' w2 hown2 hg2 _
      have HO:=Lib.hid hown2
      clear hown2
      go_wp2
      go_roundw
      case rel=>
       refine ⟨j+1,d',l++[x],by omega,by go_num,hbs.2.2,Lib.hid (tkL_more HT.out HL.out),?_,?_,?_⟩
       ·exact (hS1.alloc _).kept hg2 (fun e=>by have:=HV.out b e.symm;omega)
       ·have h:=HO.out
        rw [List.map_append,List.map_append,List.map_map]
        exact h
       ·have ht:=hT1.alloc (.cells #[.int .u32 x] 22)
        exact ⟨hg2.os.trans ht.os,hg2.tape.trans ht.tape,hg2.output.trans ht.output,Nat.le_trans ht.size hg2.size,fun i hi hne=>(hg2.block i (Nat.lt_of_lt_of_le hi ht.size) (fun e=>by have:=HV.out i e.symm;omega)).trans (ht.block i hi hne)⟩
      case measure=>simp [intOf];omega
   ·go_wp2
    go_ret2
    obtain rfl:j=k:=by omega
    have hlen:=tkL_spec1 hc HT.out
    have e:r=(l.map (fun v:Nat=>(v:Int)),0,d):=by rw [HE.out,HT.out]
    subst e
    refine ⟨_,rfl,?_,fun i hi=>(hown.lt i hi).1,hSr,hT⟩
    have e1:(l.map (fun v:Nat=>(v:Int))).length=j:=by rw [List.length_map];exact hlen
    rw [e1]
    exact owns_base hown


set_option maxRecDepth 100000 in
set_option maxHeartbeats 4000000 in
theorem rbounded (b:Nat) (s:ByteArray) (c q:Nat) (n:Int) (w:World) (hs:s.size≤1048576) (hc:c≤8*s.size) (hq:q≤4294967295) (hS:RefAt w b s c) :
  Calls Tryz.prog 86 #[.pointer (some ⟨b,0,none⟩),.int .i64 n,.int .u32 q] w (RListPost w b s 2 .i64 (boundedR s c n q)):=by
 have h0:=hS.c1
 have hb:=hS.lt
 obtain ⟨i0,hi,hz0,hz1,hz2⟩:=info_parts info_i64
 obtain ⟨r,hr⟩:∃ r,boundedR s c n q=r:=⟨_,rfl⟩
 rw [hr]
 have HR:=Lib.hid hr
 clear hr
 by_cases h1:n<0∨4096<n∨2147483647<q
 ·have e:r=([],2,c):=by rw [← HR.out,boundedR,if_pos h1]
  subst e
  by_cases h2:n<0
  ·go_enter Tryz.func86,Tryz.ntmps86
   go_wp2
   go_ret2
   exact rlistPost_nil hS (STurn.refl _ _)
  by_cases h3:4096<n
  ·go_enter Tryz.func86,Tryz.ntmps86
   go_wp2
   go_ret2
   exact rlistPost_nil hS (STurn.refl _ _)
  ·have h4:2147483647<q:=by omega
   clear h1
   go_enter Tryz.func86,Tryz.ntmps86
   go_wp2
   go_ret2
   exact rlistPost_nil hS (STurn.refl _ _)
 ·have e:r=boundedR s c n q:=HR.out.symm
  rw [boundedR,if_neg h1] at e
  have h2:¬ n<0:=by omega
  have h3:¬ 4096<n:=by omega
  have h4:¬ 2147483647<q:=by omega
  clear h1
  obtain ⟨k,rfl⟩:=Int.eq_ofNat_of_zero_le (show 0≤n by omega)
  rw [Int.toNat_natCast] at e
  have HE:=Lib.hid e
  clear e
  go_enter Tryz.func86,Tryz.ntmps86
  go_wp2
  go_loopw [9,10] (fun v i wr=>∃ (j d:Nat) (l:List Nat),j≤k∧i = .int .i64 j∧d≤8*s.size∧Hid (tkL s (2*q+1) j c=some (l,d))∧RefAt wr b s d∧wr.ownsRow w.heap.size 2 1 v j ((l.map (fun v:Nat=>(v:Int) - (q:Int))).map (Value.int .i64))∧STurn w wr [b]) (fun _ i _=>k - (intOf i).toNat)
  case atStart=>exact ⟨0,c,[],Nat.zero_le _,rfl,hc,Lib.hid rfl,hS,World.ownsRow_nil _ _ _ _,STurn.refl _ _⟩
  case round=>
   obtain ⟨j,d,l,hj,rfl,hd,HT,hSr,hown,hT⟩:=hrel
   by_cases hlt:j<k
   ·have H:=rbelow_any b s d (2*q+1) _ hs hd (by omega) (by omega) hSr
    rcases hL:belowL s (2*q+1) d with _ | ⟨x,d'⟩
    ·rw [hL] at H
     have HH:=Lib.hid H
     have HL:=Lib.hid hL
     clear H hL
     go_wp2_with fail
     refine HH.out.mono ?_
     rintro e w1 ⟨rfl,⟨d2,hd2,hS1⟩,hg⟩
     have k1:=hS1.c1
     have k2:=hS1.f1
     go_wp2
     go_ret2
     have hn:=tkL_none (tkL_stop HT.out HL.out) k (by omega)
     have e:r=([],4,c):=by rw [HE.out,hn]
     subst e
     exact rlistPost_nil (hS1.set c) ((hT.trans (STurn.of_grown hg (by simp))).setCell (.inl (by simp)) _)
    ·rw [hL] at H
     have hbs:=belowL_spec hL
     have HH:=Lib.hid H
     have HL:=Lib.hid hL
     clear H hL
     have hx:x≤4294967295:=by omega
     go_wp2_with fail
     refine HH.out.mono ?_
     rintro e w1 ⟨rfl,hS1,hg⟩
     have hvb:=hown.lt
     have hown1:=hown.kept hg (.inr (fun e=>by have:=hvb b e;omega))
     have hT1:=hT.trans (STurn.of_grown hg (S:=[b]) (by simp))
     have hw1:=hT1.size
     have HV:=Lib.hid hvb
     clear hvb
     go_wp2_with (at_builtin;refine wpList_append_own _ rfl _ _ 92 rfl w.heap.size 2 i0 (.int .i64 0) 1 8 Tryz.underlying92 hi hz0 hz1 hz2 rfl (by decide) _ _ _ rfl (hown1.alloc _) ⟨w1.heap.size,0,none⟩ 1 1 [.int .i64 ((x:Int) - (q:Int))] rfl rfl ?c1 ?c2 ?c3 ?c4 ?c5 ?_)
     case c1=>
      intro t u ht
      match t,ht with
      | 0,ht=>simp at ht;subst ht;simp [Addr.add]
     case c2=>intro u hu;simp at hu;subst hu;rfl
     case c3=>unfold maxLen;omega
     case c4=>omega
     case c5=>simp;omega
     ·intro v' w2 hown2 hg2 _
      have HO:=Lib.hid hown2
      clear hown2
      go_wp2
      go_roundw
      case rel=>
       refine ⟨j+1,d',l++[x],by omega,by go_num,hbs.2.2,Lib.hid (tkL_more HT.out HL.out),?_,?_,?_⟩
       ·exact (hS1.alloc _).kept hg2 (fun e=>by have:=HV.out b e.symm;omega)
       ·have h:=HO.out
        rw [List.map_append,List.map_append,List.map_map]
        exact h
       ·have ht:=hT1.alloc (.cells #[.int .i64 ((x:Int) - (q:Int))] 2)
        exact ⟨hg2.os.trans ht.os,hg2.tape.trans ht.tape,hg2.output.trans ht.output,Nat.le_trans ht.size hg2.size,fun i hi hne=>(hg2.block i (Nat.lt_of_lt_of_le hi ht.size) (fun e=>by have:=HV.out i e.symm;omega)).trans (ht.block i hi hne)⟩
      case measure=>simp [intOf];omega
   ·go_wp2
    go_ret2
    obtain rfl:j=k:=by omega
    have hlen:=tkL_spec1 hc HT.out
    have e:r=(l.map (fun v:Nat=>(v:Int) - (q:Int)),0,d):=by rw [HE.out,HT.out]
    subst e
    refine ⟨_,rfl,?_,fun i hi=>(hown.lt i hi).1,hSr,hT⟩
    have e1:(l.map (fun v:Nat=>(v:Int) - (q:Int))).length=j:=by rw [List.length_map];exact hlen
    rw [e1]
    exact owns_base hown
end Go.Proofs.YtmjildbdkecolaaGreat
