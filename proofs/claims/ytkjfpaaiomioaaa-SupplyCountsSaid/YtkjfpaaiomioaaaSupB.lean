/- The program's supply: a number below n. -/
import Derived.Test.YtkjfpaaiomioaaaSupA
import Derived.Test.YtkjfpaaiomioaaaSupLen
import Derived.Deep.LoopGhost
import Derived.Lib.Hide
namespace Go.Proofs.Ytkjfpaaiomioaaa
open Go.RowKit

/-- What taking a number below n comes to. -/
def BelowPost (w : World) (b : Nat) (s : ByteArray) (r : Option (Nat × Nat)) (e : Ending) (w' : World) : Prop :=
  match r with
  | some (v, d) => e = .returned (.tuple #[.int .u64 v, .bool true]) ∧ SupAt w' b s d ∧ w.grownBy w' (some b)
  | none => e = .returned (.tuple #[.int .u64 0, .bool false]) ∧ (∃ d, d ≤ 8 * s.size ∧ SupAt w' b s d) ∧ w.grownBy w' (some b)

set_option maxHeartbeats 400000 in
theorem below_any (b : Nat) (s : ByteArray) (c n : Nat) (w : World) (hs : s.size ≤ 1048576) (hc : c ≤ 8 * s.size) (hn : 1 ≤ n) (hn2 : n ≤ 18446744073709551615) (hS : SupAt w b s c) :
    Calls Try.prog 27 #[.pointer (some ⟨b, 0, none⟩), .int .u64 n] w (BelowPost w b s (belowL s n c)) := by
  obtain ⟨r, hr⟩ : ∃ r, belowL s n c = r := ⟨_, rfl⟩
  rw [hr]
  have HR := Lib.hid hr
  clear hr
  go_enter Try.func27, Try.ntmps27
  go_wp2_with fail
  refine (len64_any _ _ (by omega) (by omega)).mono ?_
  rintro e w' ⟨rfl, rfl⟩
  have e1 : ((n : Int) - 1).toNat = n - 1 := by omega
  rw [e1]
  clear e1
  obtain ⟨k, hk⟩ : ∃ k, lenBits (n - 1) = k := ⟨_, rfl⟩
  have hk64 : k ≤ 64 := by rw [← hk]; exact lenBits_le (by omega)
  rw [hk]
  have HK := Lib.hid hk
  clear hk
  go_wp2_with fail
  go_loopg [7, 8] (8 * s.size - c) (fun g _ _ wr => ∃ d : Nat, d ≤ 8 * s.size ∧ Hid (g = 8 * s.size - d) ∧ Hid (belowL s n d = r) ∧ SupAt wr b s d ∧ w'.grownBy wr (some b))
  case atStart => exact ⟨c, hc, Lib.hid rfl, HR, hS, only_refl _ _⟩
  case round =>
    obtain ⟨d, hd, HG, HB, hSr, hg⟩ := hrel
    by_cases hlt : 8 * s.size < d + k
    · have hb := belowL_none (s := s) (n := n) hd (by rw [HK.out]; exact hlt)
      have Hb := Lib.hid hb
      clear hb
      go_wp2_with fail
      refine (some_no b s d k _ hs hd hk64 hlt hSr).mono ?_
      rintro e w1 ⟨rfl, m, rfl⟩
      go_wp2
      go_ret2
      rw [← HB.out, Hb.out]
      exact ⟨rfl, ⟨d, hd, hSr.drewN m⟩, only_drewN hg m⟩
    · have hle : d + k ≤ 8 * s.size := by omega
      by_cases hv : valAt s d k < n
      · have Hb : Hid (belowL s n d = some (valAt s d k, d + k)) := by
          have := belowL_some (s := s) (n := n) (a := d) (by rw [HK.out]; exact hle) (by rw [HK.out]; exact hv)
          rw [HK.out] at this
          exact this
        go_wp2_with fail
        refine (some_yes b s d k _ hs hk64 hle hSr).mono ?_
        rintro e w1 ⟨rfl, hS1, hg1⟩
        go_wp2
        go_ret2
        rw [← HB.out, Hb.out]
        exact ⟨rfl, hS1, only_trans hg hg1⟩
      · have hk0 : 0 < k := by
          rcases Nat.eq_zero_or_pos k with h0 | h0
          · exfalso; apply hv; rw [h0]; exact hn
          · exact h0
        have Hb : Hid (belowL s n d = belowL s n (d + k)) := by
          have := belowL_again (s := s) (n := n) (a := d) hn (by rw [HK.out]; exact hle) (by rw [HK.out]; exact hv)
          rw [HK.out] at this
          exact this
        go_wp2_with fail
        refine (some_yes b s d k _ hs hk64 hle hSr).mono ?_
        rintro e w1 ⟨rfl, hS1, hg1⟩
        go_wp2
        go_roundg (8 * s.size - (d + k))
        case measure => have := HG.out; omega
        case rel => exact ⟨d + k, hle, Lib.hid rfl, Lib.hid (Hb.out.symm.trans HB.out), hS1, only_trans hg hg1⟩
end Go.Proofs.Ytkjfpaaiomioaaa
