/- math/bits.Len64 returns the number of binary digits.
The program's supply: a number below n. -/
import Derived.Test.YtdcenblblimkfaaGreatPk01
import Derived.Test.YtdcenblblimkfaaGreatRows
import Derived.Test.YtdcenblblimkfaaGreatPk31
import Derived.Deep.LoopGhost
import Derived.Lib.Hide
set_option linter.unusedSimpArgs false
set_option linter.unusedVariables false
set_option linter.unnecessarySimpa false
set_option linter.unusedSectionVars false
namespace Go.Proofs.YtdcenblblimkfaaGreat
open Go.RowKit

theorem bitLenAux_eq : ∀ (f x : Nat), x < 2 ^ f → Lib.bitLenAux f x = lenBits x
  | 0, x, h => by have : x = 0 := by simpa using h
                  subst this; rfl
  | f + 1, x, h => by
    unfold Lib.bitLenAux
    by_cases h0 : x = 0
    · subst h0; rfl
    · rw [if_neg h0, bitLenAux_eq f (x / 2) (by have h' := h; rw [Nat.pow_succ] at h'; exact Nat.div_lt_of_lt_mul (by omega)), lenBits_half (n := x) (by omega)]; omega
theorem bitLen_eq (x:Nat) (h:x<18446744073709551616):Lib.bitLen x=lenBits x:=bitLenAux_eq 64 x h

theorem len64_any (x:Int) (w:World) (h0:0≤x) (h1:x≤18446744073709551615) :
  Calls Tryz.prog 268 #[.int .u64 x] w fun e w'=>e = .returned (.int .i64 (lenBits x.toNat))∧w'=w:=by
 rw [← bitLen_eq x.toNat (by omega)]
 exact len64_walk x w h0 h1


def BelowPost (w:World) (b:Nat) (s:ByteArray) (r:Option (Nat × Nat)) (e:Ending) (w':World):Prop:=
 match r with
 | some (v,d)=>e = .returned (.tuple #[.int .u64 v,.bool true])∧SupAt w' b s d∧w.grownBy w' (some b)
 | none=>e = .returned (.tuple #[.int .u64 0,.bool false])∧(∃ d,d≤8*s.size∧SupAt w' b s d)∧w.grownBy w' (some b)

set_option maxHeartbeats 400000 in
theorem below_any (b:Nat) (s:ByteArray) (c n:Nat) (w:World) (hs:s.size≤1048576) (hc:c≤8*s.size) (hn:1≤n) (hn2:n≤18446744073709551615) (hS:SupAt w b s c) :
  Calls Tryz.prog 211 #[.pointer (some ⟨b,0,none⟩),.int .u64 n] w (BelowPost w b s (belowL s n c)):=by
 obtain ⟨r,hr⟩:∃ r,belowL s n c=r:=⟨_,rfl⟩
 rw [hr]
 have HR:=Lib.hid hr
 clear hr
 go_enter Tryz.func211,Tryz.ntmps211
 go_wp2_with fail
 refine (len64_any _ _ (by omega) (by omega)).mono ?_
 rintro e w' ⟨rfl,rfl⟩
 have e1:((n:Int) - 1).toNat=n - 1:=by omega
 rw [e1]
 clear e1
 obtain ⟨k,hk⟩:∃ k,lenBits (n - 1)=k:=⟨_,rfl⟩
 have hk64:k≤64:=by rw [← hk];exact lenBits_le (by omega)
 rw [hk]
 have HK:=Lib.hid hk
 clear hk
 go_wp2_with fail
 go_loopg [7,8] (8*s.size - c) (fun g _ _ wr=>∃ d:Nat,d≤8*s.size∧Hid (g=8*s.size - d)∧Hid (belowL s n d=r)∧SupAt wr b s d∧w'.grownBy wr (some b))
 case atStart=>exact ⟨c,hc,Lib.hid rfl,HR,hS,only_refl _ _⟩
 case round=>
  obtain ⟨d,hd,HG,HB,hSr,hg⟩:=hrel
  by_cases hlt:8*s.size<d+k
  ·have hb:=belowL_none (s:=s) (n:=n) hd (by rw [HK.out];exact hlt)
   have Hb:=Lib.hid hb
   clear hb
   go_wp2_with fail
   refine (some_no b s d k _ hs hd hk64 hlt hSr).mono ?_
   rintro e w1 ⟨rfl,m,rfl⟩
   go_wp2
   go_ret2
   rw [← HB.out,Hb.out]
   exact ⟨rfl,⟨d,hd,hSr.drewN m⟩,only_drewN hg m⟩
  ·have hle:d+k≤8*s.size:=by omega
   by_cases hv:valAt s d k<n
   ·have Hb:Hid (belowL s n d=some (valAt s d k,d+k)):=by
     have:=belowL_some (s:=s) (n:=n) (a:=d) (by rw [HK.out];exact hle) (by rw [HK.out];exact hv)
     rw [HK.out] at this
     exact this
    go_wp2_with fail
    refine (some_yes b s d k _ hs hk64 hle hSr).mono ?_
    rintro e w1 ⟨rfl,hS1,hg1⟩
    go_wp2
    go_ret2
    rw [← HB.out,Hb.out]
    exact ⟨rfl,hS1,only_trans hg hg1⟩
   ·have hk0:0<k:=by
     rcases Nat.eq_zero_or_pos k with h0 | h0
     ·exfalso;apply hv;rw [h0];exact hn
     ·exact h0
    have Hb:Hid (belowL s n d=belowL s n (d+k)):=by
     have:=belowL_again (s:=s) (n:=n) (a:=d) hn (by rw [HK.out];exact hle) (by rw [HK.out];exact hv)
     rw [HK.out] at this
     exact this
    go_wp2_with fail
    refine (some_yes b s d k _ hs hk64 hle hSr).mono ?_
    rintro e w1 ⟨rfl,hS1,hg1⟩
    go_wp2
    go_roundg (8*s.size - (d+k))
    case measure=>have:=HG.out;omega
    case rel=>exact ⟨d+k,hle,Lib.hid rfl,Lib.hid (Hb.out.symm.trans HB.out),hS1,only_trans hg hg1⟩
end Go.Proofs.YtdcenblblimkfaaGreat
