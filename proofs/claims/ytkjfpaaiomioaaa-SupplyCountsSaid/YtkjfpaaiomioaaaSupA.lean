/- The program's supply: some. -/
import Derived.Test.YtkjfpaaiomioaaaSupMem
import Derived.WalkKit
import Derived.WalkSpells
import Derived.WalkLawsBesides
import Derived.BigQuiet
import Derived.Outline
namespace Go.Proofs.Ytkjfpaaiomioaaa
open Go.RowKit

set_option maxHeartbeats 400000 in
theorem some_no (b : Nat) (s : ByteArray) (c n : Nat) (w : World) (hs : s.size ≤ 1048576) (hc : c ≤ 8 * s.size) (hn : n ≤ 64) (hlt : 8 * s.size < c + n) (hS : SupAt w b s c) :
    Calls Try.prog 29 #[.pointer (some ⟨b, 0, none⟩), .int .i64 n] w fun e w' => e = .returned (.tuple #[.int .u64 0, .bool false]) ∧ ∃ k, w' = w.drewN k := by
  have h0 := hS.c0
  have h1 := hS.c1
  go_enter Try.func29, Try.ntmps29
  go_wp2
  go_quiet (fail)
  go_wp2
  go_ret2
  exact ⟨rfl, _, rfl⟩

set_option maxHeartbeats 400000 in
theorem some_yes (b : Nat) (s : ByteArray) (c n : Nat) (w : World) (hs : s.size ≤ 1048576) (hn : n ≤ 64) (hlt : c + n ≤ 8 * s.size) (hS : SupAt w b s c) :
    Calls Try.prog 29 #[.pointer (some ⟨b, 0, none⟩), .int .i64 n] w fun e w' => e = .returned (.tuple #[.int .u64 (valAt s c n), .bool true]) ∧ SupAt w' b s (c + n) ∧ w.grownBy w' (some b) := by
  have h0 := hS.c0
  have h1 := hS.c1
  go_enter Try.func29, Try.ntmps29
  go_wp2
  go_quiet (fail)
  go_wp2
  go_loopw [6, 21] (fun v i wr => ∃ k d : Nat, d = c + k ∧ k ≤ n ∧ i = .int .i64 k ∧ v = .int .u64 (valAt s c k) ∧ SupAt wr b s d ∧ w.grownBy wr (some b)) (fun _ i _ => n - (intOf i).toNat)
  case atStart => exact ⟨0, c, rfl, Nat.zero_le _, rfl, rfl, hS, only_drewN (only_refl _ _) _⟩
  case round =>
    obtain ⟨k, d, hd, hk, rfl, rfl, hSr, hg⟩ := hrel
    have g0 := hSr.c0
    have g1 := hSr.c1
    have gf := hSr.f1
    by_cases hlt2 : k < n
    · have hi1 : (0 : Int) ≤ (d : Int) / 8 := by omega
      have hi2 : (d : Int) / 8 < (s.size : Int) := by omega
      have hi3 : ((d : Int) / 8).toNat = d / 8 := by omega
      have HD : Hid (d = c + k) := hd
      clear hd
      go_wp2
      go_region
      go_wp2
      go_roundw
      case rel =>
        have hd := HD.out
        subst hd
        exact ⟨k + 1, c + k + 1, by omega, by omega, by go_num, by rw [valAt_step s c k (by omega)], (hSr.set (c + k + 1)).drew, only_drew (only_setCell hg (.inl rfl) _)⟩
      case measure => simp [intOf]; omega
    · go_wp2
      go_ret2
      obtain rfl : k = n := by omega
      exact ⟨rfl, hd ▸ hSr, hg⟩
end Go.Proofs.Ytkjfpaaiomioaaa
