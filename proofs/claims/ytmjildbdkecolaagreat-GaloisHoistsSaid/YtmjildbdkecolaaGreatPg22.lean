/- Small laws on the memory of a supply: its block, behind draws, new blocks, stores, writes to other blocks. No walk.
The reference's supply: bit, some, below. -/
import Derived.Test.YtmjildbdkecolaaGreatRows
import Derived.Test.YtmjildbdkecolaaGreatPg01
import Derived.WalkKit
import Derived.Deep.Draws
import Derived.Deep.OwnRows
import Derived.WalkSpells
import Derived.WalkLawsBesides
import Derived.BigQuiet
import Derived.Outline
import Derived.Deep.LoopGhost
import Derived.Lib.Hide
set_option linter.unusedSimpArgs false
set_option linter.unusedVariables false
set_option linter.unnecessarySimpa false
set_option linter.unusedSectionVars false
namespace Go.Proofs.YtmjildbdkecolaaGreat
open Go.RowKit

theorem only_refl (w:World) (row:Option Nat):w.grownBy w row:=⟨rfl,rfl,rfl,Nat.le_refl _,fun _ _ _=>rfl⟩
theorem only_drewN {a w:World} {row:Option Nat} (h:a.grownBy w row) (n:Nat):a.grownBy (w.drewN n) row:=⟨h.os,h.tape,h.output,h.size,h.block⟩
theorem only_setCell {a w:World} {row:Option Nat} (h:a.grownBy w row) {p:Addr} (hp:row=some p.block∨a.heap.size≤p.block) (u:Value):a.grownBy (w.setCell p u) row:=
 ⟨h.os,h.tape,h.output,by simpa [World.setCell] using h.size,fun i hi hne=>(Below.heap_setCell w p u i (by
  rintro rfl
  rcases hp with hp | hp
  ·exact hne (by rw [hp])
  ·omega)).trans (h.block i hi hne)⟩
theorem only_trans {a b c:World} {row:Option Nat} (h:a.grownBy b row) (k:b.grownBy c row):a.grownBy c row:=
 ⟨k.os.trans h.os,k.tape.trans h.tape,k.output.trans h.output,Nat.le_trans h.size k.size,fun i hi hne=>(k.block i (Nat.lt_of_lt_of_le hi h.size) hne).trans (h.block i hi hne)⟩
def SupAt (w:World) (b:Nat) (s:ByteArray) (c:Nat):Prop:=w.heap[b]? = some (.cells #[.string s,.int .i64 c,.bool true] 115 (0,0))
def RefAt (w:World) (b:Nat) (s:ByteArray) (c:Nat):Prop:=w.heap[b]? = some (.cells #[.string s,.int .i64 c] 117 (0,0))

theorem s_block_lt {w:World} {b:Nat} {o:Obj} (h:w.heap[b]? = some o):b<w.heap.size:=by
 rcases Nat.lt_or_ge b w.heap.size with h1 | h1
 ·exact h1
 ·rw [Array.getElem?_eq_none h1] at h;cases h

section
variable {w:World} {b:Nat} {s:ByteArray} {c:Nat}
theorem SupAt.lt (h:SupAt w b s c):b<w.heap.size:=s_block_lt h
theorem SupAt.c2 (h:SupAt w b s c):w.cell? ⟨b,2,none⟩=some (.bool true):=by unfold SupAt at h;simp [World.cell?,h]
theorem RefAt.lt (h:RefAt w b s c):b<w.heap.size:=s_block_lt h
theorem RefAt.c0 (h:RefAt w b s c):w.cell? ⟨b,0,none⟩=some (.string s):=by unfold RefAt at h;simp [World.cell?,h]
theorem RefAt.c1 (h:RefAt w b s c):w.cell? ⟨b,1,none⟩=some (.int .i64 c):=by unfold RefAt at h;simp [World.cell?,h]
theorem RefAt.f1 (h:RefAt w b s c):w.frozen? ⟨b,1,none⟩=false:=by unfold RefAt at h;simp [World.frozen?,h]
theorem RefAt.drewN (h:RefAt w b s c) (n:Nat):RefAt (w.drewN n) b s c:=h
theorem RefAt.alloc (h:RefAt w b s c) (o:Obj):RefAt (w.alloc o) b s c:=(Below.heap_alloc w o b h.lt).trans h
theorem RefAt.kept {w':World} {row:Option Nat} (h:RefAt w b s c) (hg:w.grownBy w' row) (hr:some b≠row):RefAt w' b s c:=(hg.block b h.lt hr).trans h
theorem RefAt.set (h:RefAt w b s c) (d:Nat):RefAt (w.setCell ⟨b,1,none⟩ (.int .i64 d)) b s d:=by
 unfold RefAt at *
 simp [World.setCell,Array.getElem?_modify,h]
end

structure STurn (w w':World) (S:List Nat):Prop where
 os:w'.os=w.os
 tape:w'.tape=w.tape
 output:w'.output=w.output
 size:w.heap.size≤w'.heap.size
 block:∀ k,k<w.heap.size→k ∉ S→w'.heap[k]? = w.heap[k]?
theorem STurn.refl (w:World) (S:List Nat):STurn w w S:=⟨rfl,rfl,rfl,Nat.le_refl _,fun _ _ _=>rfl⟩
theorem STurn.trans {a b c:World} {S:List Nat} (h:STurn a b S) (k:STurn b c S):STurn a c S:=
 ⟨k.os.trans h.os,k.tape.trans h.tape,k.output.trans h.output,Nat.le_trans h.size k.size,fun i hi hne=>(k.block i (Nat.lt_of_lt_of_le hi h.size) hne).trans (h.block i hi hne)⟩
theorem STurn.alloc {a w:World} {S:List Nat} (h:STurn a w S) (o:Obj):STurn a (w.alloc o) S:=
 ⟨h.os,h.tape,h.output,Nat.le_trans h.size (by simp),fun i hi hne=>(Below.heap_alloc w o i (Nat.lt_of_lt_of_le hi h.size)).trans (h.block i hi hne)⟩
theorem STurn.setCell {a w:World} {S:List Nat} (h:STurn a w S) {p:Addr} (hp:p.block∈S∨a.heap.size≤p.block) (u:Value):STurn a (w.setCell p u) S:=
 ⟨h.os,h.tape,h.output,by simpa [World.setCell] using h.size,fun i hi hne=>(Below.heap_setCell w p u i (by
  rintro rfl
  rcases hp with hp | hp
  ·exact hne hp
  ·omega)).trans (h.block i hi hne)⟩
theorem STurn.of_grown {w w':World} {b:Nat} {S:List Nat} (h:w.grownBy w' (some b)) (hb:b∈S):STurn w w' S:=
 ⟨h.os,h.tape,h.output,h.size,fun i hi hne=>h.block i hi (fun e=>hne (by injection e with e;rw [e];exact hb))⟩
theorem STurn.at {w w':World} {S:List Nat} (h:STurn w w' S) {k:Nat} {o:Obj} (hk:w.heap[k]? = some o) (hn:k ∉ S):w'.heap[k]? = some o:=(h.block k (s_block_lt hk) hn).trans hk
theorem STurn.cell {w w':World} {S:List Nat} (h:STurn w w' S) {p:Addr} {v:Value} (hc:w.cell? p=some v) (hn:p.block ∉ S):w'.cell? p=some v:=
 (World.cell?_of_block (h.block p.block (World.block_lt_of_cell? w p hc) hn)).trans hc
def IntRow (w:World) (g:Nat) (e:TypeId) (kd:IntKind) (l:List Int):Prop:=w.heap[g]? = some (.cells (l.map (Value.int kd)).toArray e (0,0))
section
variable {w:World} {g:Nat} {e:TypeId} {kd:IntKind} {l:List Int}
theorem IntRow.lt (h:IntRow w g e kd l):g<w.heap.size:=s_block_lt h
theorem IntRow.cell (h:IntRow w g e kd l) (k:Nat) (hk:k<l.length):w.cell? ⟨g,k,none⟩=some (.int kd (l.getD k 0)):=by
 unfold IntRow at h;simp [World.cell?,h,List.getD_eq_getElem?_getD,hk]
end


set_option maxHeartbeats 400000 in
theorem rbit_no (b:Nat) (s:ByteArray) (c:Nat) (w:World) (hs:s.size≤1048576) (hc:8*s.size≤c) (hS:RefAt w b s c) :
  Calls Tryz.prog 202 #[.pointer (some ⟨b,0,none⟩)] w fun e w'=>e = .returned (.tuple #[.int .u64 0,.bool false])∧∃ k,w'=w.drewN k:=by
 have h0:=hS.c0
 have h1:=hS.c1
 go_enter Tryz.func202,Tryz.ntmps202
 go_wp2
 go_quiet (fail)
 go_wp2
 go_ret2
 exact ⟨rfl,_,rfl⟩

set_option maxHeartbeats 400000 in
theorem rbit_yes (b:Nat) (s:ByteArray) (c:Nat) (w:World) (hs:s.size≤1048576) (hc:c<8*s.size) (hS:RefAt w b s c) :
  Calls Tryz.prog 202 #[.pointer (some ⟨b,0,none⟩)] w fun e w'=>e = .returned (.tuple #[.int .u64 (bitAt s c),.bool true])∧RefAt w' b s (c+1)∧w.grownBy w' (some b):=by
 have h0:=hS.c0
 have h1:=hS.c1
 have h2:=hS.f1
 have hi1:(0:Int)≤(c:Int) / 8:=by omega
 have hi2:(c:Int) / 8<(s.size:Int):=by omega
 have hi3:((c:Int) / 8).toNat=c / 8:=by omega
 go_enter Tryz.func202,Tryz.ntmps202
 go_wp2
 go_quiet (fail)
 go_wp2
 go_region
 go_wp2
 go_ret2
 refine ⟨?_,?_,?_⟩
 ·rw [bit_code _ _ (UInt8.toNat_lt _)]
  rw [IntWalk.u64_in _ (by omega),bitAt,byteAt_eq s _ (by omega)]
  rfl
 ·exact (hS.set (c+1))
 ·exact only_setCell (only_drewN (only_refl _ _) _) (.inl rfl) _

set_option maxHeartbeats 400000 in
theorem rsome_yes (b:Nat) (s:ByteArray) (c n:Nat) (w:World) (hs:s.size≤1048576) (hn:n≤64) (hlt:c+n≤8*s.size) (hS:RefAt w b s c) :
  Calls Tryz.prog 193 #[.pointer (some ⟨b,0,none⟩),.int .i64 n] w fun e w'=>e = .returned (.tuple #[.int .u64 (valAt s c n),.bool true])∧RefAt w' b s (c+n)∧w.grownBy w' (some b):=by
 go_enter Tryz.func193,Tryz.ntmps193
 go_wp2
 go_loopw [6,7] (fun v i wr=>∃ k d:Nat,Hid (d=c+k)∧d+(n - k)≤8*s.size∧k≤n∧i = .int .i64 k∧v = .int .u64 (valAt s c k)∧RefAt wr b s d∧w.grownBy wr (some b)) (fun _ i _=>n - (intOf i).toNat)
 case atStart=>exact ⟨0,c,Lib.hid rfl,by omega,Nat.zero_le _,rfl,rfl,hS,only_refl _ _⟩
 case round=>
  obtain ⟨k,d,HD,hdn,hk,rfl,rfl,hSr,hg⟩:=hrel
  by_cases hlt2:k<n
  ·have hbit:=bitAt_lt s d
   have hv:=valAt_lt s c k
   have hv63:valAt s c k<9223372036854775808:=Nat.lt_of_lt_of_le hv (Nat.pow_le_pow_right (n:=2) (by decide) (show k≤63 by omega))
   clear hv
   go_wp2_with fail
   refine (rbit_yes b s d _ hs (by omega) hSr).mono ?_
   rintro e w1 ⟨rfl,hS1,hg1⟩
   go_wp2
   go_roundw
   case rel=>
    have hd:=HD.out
    subst hd
    exact ⟨k+1,c+k+1,Lib.hid rfl,by omega,by omega,by go_num,by rw [valAt];go_num,hS1,only_trans hg hg1⟩
   case measure=>simp [intOf];omega
  ·go_wp2
   go_ret2
   obtain rfl:k=n:=by omega
   have hd:=HD.out
   subst hd
   exact ⟨rfl,hSr,hg⟩

set_option maxHeartbeats 400000 in
theorem rsome_no (b:Nat) (s:ByteArray) (c n:Nat) (w:World) (hs:s.size≤1048576) (hn:n≤64) (hc:c≤8*s.size) (hlt:8*s.size<c+n) (hS:RefAt w b s c) :
  Calls Tryz.prog 193 #[.pointer (some ⟨b,0,none⟩),.int .i64 n] w fun e w'=>e = .returned (.tuple #[.int .u64 0,.bool false])∧RefAt w' b s (8*s.size)∧w.grownBy w' (some b):=by
 go_enter Tryz.func193,Tryz.ntmps193
 go_wp2
 go_loopw [6,7] (fun v i wr=>∃ k d u:Nat,Hid (d=c+k)∧d≤8*s.size∧8*s.size<d+(n - k)∧k≤n∧i = .int .i64 k∧v = .int .u64 u∧u<2 ^ k∧RefAt wr b s d∧w.grownBy wr (some b)) (fun _ i _=>n - (intOf i).toNat)
 case atStart=>exact ⟨0,c,0,Lib.hid rfl,hc,by omega,Nat.zero_le _,rfl,rfl,by decide,hS,only_refl _ _⟩
 case round=>
  obtain ⟨k,d,u,HD,hdn,hlt3,hk,rfl,rfl,hu,hSr,hg⟩:=hrel
  have hlt2:k<n:=by omega
  by_cases hd2:d<8*s.size
  ·have hbit:=bitAt_lt s d
   have hv63:u<9223372036854775808:=Nat.lt_of_lt_of_le hu (Nat.pow_le_pow_right (n:=2) (by decide) (show k≤63 by omega))
   have HU:=Lib.hid hu
   clear hu
   go_wp2_with fail
   refine (rbit_yes b s d _ hs hd2 hSr).mono ?_
   rintro e w1 ⟨rfl,hS1,hg1⟩
   go_wp2
   go_roundw
   case rel=>
    have hd:=HD.out
    subst hd
    exact ⟨k+1,c+k+1,2*u+bitAt s (c+k),Lib.hid rfl,by omega,by omega,by omega,by go_num,by go_num,by have:=HU.out;rw [Nat.pow_succ];omega,hS1,only_trans hg hg1⟩
   case measure=>simp [intOf];omega
  ·go_wp2_with fail
   refine (rbit_no b s d _ hs (by omega) hSr).mono ?_
   rintro e w1 ⟨rfl,m,rfl⟩
   go_wp2
   go_ret2
   obtain rfl:d=8*s.size:=by omega
   exact ⟨rfl,hSr.drewN m,only_drewN hg m⟩
end Go.Proofs.YtmjildbdkecolaaGreat
