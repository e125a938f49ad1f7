/- The reference's supply: bit, some, below. -/
import Derived.Test.YtdcenblblimkfaaGreatPk01
import Derived.WalkKit
import Derived.WalkSpells
import Derived.WalkLawsBesides
import Derived.BigQuiet
import Derived.Outline
import Derived.Deep.LoopGhost
import Derived.Lib.Hide
set_option linter.unusedSimpArgs false
set_option linter.unusedVariables false
set_option linter.unnecessarySimpa false
set_option linter.unusedSectionVars false
namespace Go.Proofs.YtdcenblblimkfaaGreat
open Go.RowKit

set_option maxHeartbeats 400000 in
theorem rbit_no (b:Nat) (s:ByteArray) (c:Nat) (w:World) (hs:s.size≤1048576) (hc:8*s.size≤c) (hS:RefAt w b s c) :
  Calls Tryz.prog 295 #[.pointer (some ⟨b,0,none⟩)] w fun e w'=>e = .returned (.tuple #[.int .u64 0,.bool false])∧∃ k,w'=w.drewN k:=by
 have h0:=hS.c0
 have h1:=hS.c1
 go_enter Tryz.func295,Tryz.ntmps295
 go_wp2
 go_quiet (fail)
 go_wp2
 go_ret2
 exact ⟨rfl,_,rfl⟩

set_option maxHeartbeats 400000 in
theorem rbit_yes (b:Nat) (s:ByteArray) (c:Nat) (w:World) (hs:s.size≤1048576) (hc:c<8*s.size) (hS:RefAt w b s c) :
  Calls Tryz.prog 295 #[.pointer (some ⟨b,0,none⟩)] w fun e w'=>e = .returned (.tuple #[.int .u64 (bitAt s c),.bool true])∧RefAt w' b s (c+1)∧w.grownBy w' (some b):=by
 have h0:=hS.c0
 have h1:=hS.c1
 have h2:=hS.f1
 have hi1:(0:Int)≤(c:Int) / 8:=by omega
 have hi2:(c:Int) / 8<(s.size:Int):=by omega
 have hi3:((c:Int) / 8).toNat=c / 8:=by omega
 go_enter Tryz.func295,Tryz.ntmps295
 go_wp2
 go_quiet (fail)
 go_wp2
 go_region
 go_wp2
 go_ret2
 refine ⟨?_,?_,?_⟩
 ·rw [bit_code _ _ (UInt8.toNat_lt _)]
  rw [IntWalk.u64_in _ (by omega),bitAt,byteAt_eq s _ (by omega)]
  rfl
 ·exact (hS.set (c+1))
 ·exact only_setCell (only_drewN (only_refl _ _) _) (.inl rfl) _

set_option maxHeartbeats 400000 in
theorem rsome_yes (b:Nat) (s:ByteArray) (c n:Nat) (w:World) (hs:s.size≤1048576) (hn:n≤64) (hlt:c+n≤8*s.size) (hS:RefAt w b s c) :
  Calls Tryz.prog 270 #[.pointer (some ⟨b,0,none⟩),.int .i64 n] w fun e w'=>e = .returned (.tuple #[.int .u64 (valAt s c n),.bool true])∧RefAt w' b s (c+n)∧w.grownBy w' (some b):=by
 go_enter Tryz.func270,Tryz.ntmps270
 go_wp2
 go_loopw [6,7] (fun v i wr=>∃ k d:Nat,Hid (d=c+k)∧d+(n - k)≤8*s.size∧k≤n∧i = .int .i64 k∧v = .int .u64 (valAt s c k)∧RefAt wr b s d∧w.grownBy wr (some b)) (fun _ i _=>n - (intOf i).toNat)
 case atStart=>exact ⟨0,c,Lib.hid rfl,by omega,Nat.zero_le _,rfl,rfl,hS,only_refl _ _⟩
 case round=>
  obtain ⟨k,d,HD,hdn,hk,rfl,rfl,hSr,hg⟩:=hrel
  by_cases hlt2:k<n
  ·have hbit:=bitAt_lt s d
   have hv:=valAt_lt s c k
   have hv63:valAt s c k<9223372036854775808:=Nat.lt_of_lt_of_le hv (Nat.pow_le_pow_right (n:=2) (by decide) (show k≤63 by omega))
   clear hv
   go_wp2_with fail
   refine (rbit_yes b s d _ hs (by omega) hSr).mono ?_
   rintro e w1 ⟨rfl,hS1,hg1⟩
   go_wp2
   go_roundw
   case rel=>
    have hd:=HD.out
    subst hd
    exact ⟨k+1,c+k+1,Lib.hid rfl,by omega,by omega,by go_num,by rw [valAt];go_num,hS1,only_trans hg hg1⟩
   case measure=>simp [intOf];omega
  ·go_wp2
   go_ret2
   obtain rfl:k=n:=by omega
   have hd:=HD.out
   subst hd
   exact ⟨rfl,hSr,hg⟩

set_option maxHeartbeats 400000 in
theorem rsome_no (b:Nat) (s:ByteArray) (c n:Nat) (w:World) (hs:s.size≤1048576) (hn:n≤64) (hc:c≤8*s.size) (hlt:8*s.size<c+n) (hS:RefAt w b s c) :
  Calls Tryz.prog 270 #[.pointer (some ⟨b,0,none⟩),.int .i64 n] w fun e w'=>e = .returned (.tuple #[.int .u64 0,.bool false])∧RefAt w' b s (8*s.size)∧w.grownBy w' (some b):=by
 go_enter Tryz.func270,Tryz.ntmps270
 go_wp2
 go_loopw [6,7] (fun v i wr=>∃ k d u:Nat,Hid (d=c+k)∧d≤8*s.size∧8*s.size<d+(n - k)∧k≤n∧i = .int .i64 k∧v = .int .u64 u∧u<2 ^ k∧RefAt wr b s d∧w.grownBy wr (some b)) (fun _ i _=>n - (intOf i).toNat)
 case atStart=>exact ⟨0,c,0,Lib.hid rfl,hc,by omega,Nat.zero_le _,rfl,rfl,by decide,hS,only_refl _ _⟩
 case round=>
  obtain ⟨k,d,u,HD,hdn,hlt3,hk,rfl,rfl,hu,hSr,hg⟩:=hrel
  have hlt2:k<n:=by omega
  by_cases hd2:d<8*s.size
  ·have hbit:=bitAt_lt s d
   have hv63:u<9223372036854775808:=Nat.lt_of_lt_of_le hu (Nat.pow_le_pow_right (n:=2) (by decide) (show k≤63 by omega))
   have HU:=Lib.hid hu
   clear hu
   go_wp2_with fail
   refine (rbit_yes b s d _ hs hd2 hSr).mono ?_
   rintro e w1 ⟨rfl,hS1,hg1⟩
   go_wp2
   go_roundw
   case rel=>
    have hd:=HD.out
    subst hd
    exact ⟨k+1,c+k+1,2*u+bitAt s (c+k),Lib.hid rfl,by omega,by omega,by omega,by go_num,by go_num,by have:=HU.out;rw [Nat.pow_succ];omega,hS1,only_trans hg hg1⟩
   case measure=>simp [intOf];omega
  ·go_wp2_with fail
   refine (rbit_no b s d _ hs (by omega) hSr).mono ?_
   rintro e w1 ⟨rfl,m,rfl⟩
   go_wp2
   go_ret2
   obtain rfl:d=8*s.size:=by omega
   exact ⟨rfl,hSr.drewN m,only_drewN hg m⟩
end Go.Proofs.YtdcenblblimkfaaGreat
