/- math/bits.Len64 returns the number of binary digits. -/
import Derived.Test.YtkjfpaaiomioaaaSupPlain
import Derived.Test.YtkjfpaaiomioaaaRows
import Derived.Test.YtkjfpaaiomioaaaLen
namespace Go.Proofs.Ytkjfpaaiomioaaa
open Go.RowKit

theorem bitLenAux_eq : ∀ (f x : Nat), x < 2 ^ f → Lib.bitLenAux f x = lenBits x
  | 0, x, h => by have : x = 0 := by simpa using h
                  subst this; rfl
  | f + 1, x, h => by
    unfold Lib.bitLenAux
    by_cases h0 : x = 0
    · subst h0; rfl
    · rw [if_neg h0, bitLenAux_eq f (x / 2) (by have h' := h; rw [Nat.pow_succ] at h'; exact Nat.div_lt_of_lt_mul (by omega)), lenBits_half (n := x) (by omega)]; omega
theorem bitLen_eq (x : Nat) (h : x < 18446744073709551616) : Lib.bitLen x = lenBits x := bitLenAux_eq 64 x h

theorem len64_any (x : Int) (w : World) (h0 : 0 ≤ x) (h1 : x ≤ 18446744073709551615) :
    Calls Try.prog 40 #[.int .u64 x] w fun e w' => e = .returned (.int .i64 (lenBits x.toNat)) ∧ w' = w := by
  rw [← bitLen_eq x.toNat (by omega)]
  exact len64_walk x w h0 h1
end Go.Proofs.Ytkjfpaaiomioaaa
