/- The reference's supply: a number below n; New, Left, Taken, Skip, Bits, Below. -/
import Derived.Test.YtkjfpaaiomioaaaSupR
import Derived.Test.YtkjfpaaiomioaaaSupV
namespace Go.Proofs.Ytkjfpaaiomioaaa
open Go.RowKit Go.Shelf

/-- What taking a number below n comes to, of the reference. -/
def RBelowPost (w : World) (b : Nat) (s : ByteArray) (r : Option (Nat × Nat)) (e : Ending) (w' : World) : Prop :=
  match r with
  | some (v, d) => e = .returned (.tuple #[.int .u64 v, .bool true]) ∧ RefAt w' b s d ∧ w.grownBy w' (some b)
  | none => e = .returned (.tuple #[.int .u64 0, .bool false]) ∧ (∃ d, d ≤ 8 * s.size ∧ RefAt w' b s d) ∧ w.grownBy w' (some b)

set_option maxHeartbeats 1000000 in
theorem rbelow_any (b : Nat) (s : ByteArray) (c n : Nat) (w : World) (hs : s.size ≤ 1048576) (hc : c ≤ 8 * s.size) (hn : 1 ≤ n) (hn2 : n ≤ 18446744073709551615) (hS : RefAt w b s c) :
    Calls Try.prog 42 #[.pointer (some ⟨b, 0, none⟩), .int .u64 n] w (RBelowPost w b s (belowL s n c)) := by
  obtain ⟨r, hr⟩ : ∃ r, belowL s n c = r := ⟨_, rfl⟩
  rw [hr]
  have HR := Lib.hid hr
  clear hr
  have hk64' : lenBits (n - 1) ≤ 64 := lenBits_le (by omega)
  obtain ⟨k, hk⟩ : ∃ k, lenBits (n - 1) = k := ⟨_, rfl⟩
  have hk64 : k ≤ 64 := by omega
  have HK := Lib.hid hk
  clear hk hk64'
  go_enter Try.func42, Try.ntmps42
  go_wp2
  go_loop [6, 7] (fun i m => ∃ j x : Nat, i = .int .i64 j ∧ m = .int .u64 x ∧ x ≤ 18446744073709551615 ∧ j ≤ 64 ∧ Hid (j + lenBits x = k)) (fun _ m => (intOf m).toNat)
  case atStart => exact ⟨0, n - 1, rfl, by go_num, by omega, by omega, Lib.hid (by rw [Nat.zero_add]; exact HK.out)⟩
  case round =>
    obtain ⟨j, x, rfl, rfl, hx, hj, HJ⟩ := hrel
    by_cases hx0 : 0 < x
    · have hj1 : j + 1 ≤ 64 := by have h1 := HJ.out; have h2 := lenBits_pos hx0; omega
      go_wp2
      go_round
      case rel => exact ⟨j + 1, x / 2, by go_num, by go_num, by omega, by omega, Lib.hid (by have h1 := HJ.out; have h2 := lenBits_half hx0; omega)⟩
      case measure => simp [intOf]; omega
    · have hjk : j = k := by
        have h1 := HJ.out
        have : x = 0 := by omega
        subst this
        rw [lenBits_zero] at h1; omega
      subst hjk
      go_wp2
      go_loopg [8, 9] (8 * s.size - c) (fun g _ _ wr => ∃ d : Nat, d ≤ 8 * s.size ∧ Hid (g = 8 * s.size - d) ∧ Hid (belowL s n d = r) ∧ RefAt wr b s d ∧ w.grownBy wr (some b))
      case atStart => exact ⟨c, hc, Lib.hid rfl, HR, hS, only_refl _ _⟩
      case round =>
        obtain ⟨d, hd, HG, HB, hSr, hg⟩ := hrel
        by_cases hlt : 8 * s.size < d + j
        · have hb := belowL_none (s := s) (n := n) hd (by rw [HK.out]; exact hlt)
          have Hb := Lib.hid hb
          clear hb
          go_wp2_with fail
          refine (rsome_no b s d j _ hs hk64 hd hlt hSr).mono ?_
          rintro e w1 ⟨rfl, hS1, hg1⟩
          go_wp2
          go_ret2
          rw [← HB.out, Hb.out]
          exact ⟨rfl, ⟨_, Nat.le_refl _, hS1⟩, only_trans hg hg1⟩
        · have hle : d + j ≤ 8 * s.size := by omega
          by_cases hv : valAt s d j < n
          · have Hb : Hid (belowL s n d = some (valAt s d j, d + j)) := by
              have := belowL_some (s := s) (n := n) (a := d) (by rw [HK.out]; exact hle) (by rw [HK.out]; exact hv)
              rw [HK.out] at this
              exact this
            go_wp2_with fail
            refine (rsome_yes b s d j _ hs hk64 hle hSr).mono ?_
            rintro e w1 ⟨rfl, hS1, hg1⟩
            go_wp2
            go_ret2
            rw [← HB.out, Hb.out]
            exact ⟨rfl, hS1, only_trans hg hg1⟩
          · have hk0 : 0 < j := by
              rcases Nat.eq_zero_or_pos j with h0 | h0
              · exfalso; apply hv; rw [h0]; exact hn
              · exact h0
            have Hb : Hid (belowL s n d = belowL s n (d + j)) := by
              have := belowL_again (s := s) (n := n) (a := d) hn (by rw [HK.out]; exact hle) (by rw [HK.out]; exact hv)
              rw [HK.out] at this
              exact this
            go_wp2_with fail
            refine (rsome_yes b s d j _ hs hk64 hle hSr).mono ?_
            rintro e w1 ⟨rfl, hS1, hg1⟩
            go_wp2
            go_roundg (8 * s.size - (d + j))
            case measure => have := HG.out; omega
            case rel => exact ⟨d + j, hle, Lib.hid rfl, Lib.hid (Hb.out.symm.trans HB.out), hS1, only_trans hg hg1⟩

theorem rnew (s : ByteArray) (w : World) (hs : s.size ≤ 1048576) :
    Calls Try.prog 14 #[.string s] w fun e w' => e = .returned (.pointer (some ⟨w.heap.size, 0, none⟩)) ∧ w' = w.alloc (.cells #[.string s, .int .i64 0] 67) := by
  go_enter Try.func14, Try.ntmps14
  go_wp2
  go_ret
  exact ⟨rfl, rfl⟩
theorem rnew_no (s : ByteArray) (w : World) (hs : 1048576 < s.size) (hs2 : s.size ≤ 9223372036854775807) :
    Calls Try.prog 14 #[.string s] w fun e w' => e = .returned (.pointer none) ∧ w' = w := by
  go_enter Try.func14, Try.ntmps14
  go_wp2
  go_ret
  exact ⟨rfl, rfl⟩
theorem rleft (b : Nat) (s : ByteArray) (c : Nat) (w : World) (hs : s.size ≤ 1048576) (hc : c ≤ 8 * s.size) (hS : RefAt w b s c) :
    Calls Try.prog 17 #[.pointer (some ⟨b, 0, none⟩)] w fun e w' => e = .returned (.int .i64 ((8 * s.size - c : Nat) : Int)) ∧ ∃ k, w' = w.drewN k := by
  have h0 := hS.c0
  have h1 := hS.c1
  go_enter Try.func17, Try.ntmps17
  go_wp2
  go_quiet (fail)
  go_wp2
  go_ret
  exact ⟨by go_num, _, rfl⟩
theorem rtaken (b : Nat) (s : ByteArray) (c : Nat) (w : World) (hS : RefAt w b s c) :
    Calls Try.prog 18 #[.pointer (some ⟨b, 0, none⟩)] w fun e w' => e = .returned (.int .i64 c) ∧ w' = w := by
  have h1 := hS.c1
  go_enter Try.func18, Try.ntmps18
  go_wp2
  go_ret
  exact ⟨rfl, rfl⟩

/-- A number and an error are returned, and so many bits are taken, of the reference. -/
def RNumPost (w : World) (b : Nat) (s : ByteArray) (r : Nat × Int × Nat) (e : Ending) (w' : World) : Prop := e = .returned (.tuple #[.int .u64 r.1, .int .i64 r.2.1]) ∧ RefAt w' b s r.2.2 ∧ Turn w w' [b]

set_option maxHeartbeats 1000000 in
theorem rbits (b : Nat) (s : ByteArray) (c : Nat) (n : Int) (w : World) (hs : s.size ≤ 1048576) (hc : c ≤ 8 * s.size) (hS : RefAt w b s c) :
    Calls Try.prog 31 #[.pointer (some ⟨b, 0, none⟩), .int .i64 n] w (RNumPost w b s (bitsR s c n)) := by
  have h0 := hS.c1
  unfold bitsR
  by_cases h1 : n < 1
  · rw [if_pos (.inl h1)]
    go_enter Try.func31, Try.ntmps31
    go_wp2
    go_ret2
    exact ⟨rfl, hS, Turn.refl _ _⟩
  by_cases h2 : 64 < n
  · rw [if_pos (.inr h2)]
    go_enter Try.func31, Try.ntmps31
    go_wp2
    go_ret2
    exact ⟨rfl, hS, Turn.refl _ _⟩
  rw [if_neg (by omega)]
  obtain ⟨k, rfl⟩ := Int.eq_ofNat_of_zero_le (show 0 ≤ n by omega)
  rw [Int.toNat_natCast]
  by_cases h3 : c + k ≤ 8 * s.size
  · rw [if_pos h3]
    go_enter Try.func31, Try.ntmps31
    go_wp2_with fail
    refine (rsome_yes b s c k _ hs (by omega) h3 hS).mono ?_
    rintro e w1 ⟨rfl, hS1, hg⟩
    go_wp2
    go_ret2
    exact ⟨rfl, hS1, Turn.of_grown hg (by simp)⟩
  · rw [if_neg h3]
    go_enter Try.func31, Try.ntmps31
    go_wp2_with fail
    refine (rsome_no b s c k _ hs (by omega) hc (by omega) hS).mono ?_
    rintro e w1 ⟨rfl, hS1, hg⟩
    have k1 := hS1.c1
    have k2 := hS1.f1
    go_wp2
    go_ret2
    exact ⟨rfl, hS1.set c, (Turn.of_grown hg (by simp)).setCell (.inl (by simp)) _⟩

set_option maxHeartbeats 1000000 in
theorem rbelowM (b : Nat) (s : ByteArray) (c n : Nat) (w : World) (hs : s.size ≤ 1048576) (hc : c ≤ 8 * s.size) (hn2 : n ≤ 18446744073709551615) (hS : RefAt w b s c) :
    Calls Try.prog 32 #[.pointer (some ⟨b, 0, none⟩), .int .u64 n] w (RNumPost w b s (belowR s c n)) := by
  have h0 := hS.c1
  obtain ⟨r, hr⟩ : ∃ r, belowR s c n = r := ⟨_, rfl⟩
  rw [hr]
  have HR := Lib.hid hr
  clear hr
  by_cases h1 : n = 0
  · subst h1
    go_enter Try.func32, Try.ntmps32
    go_wp2
    go_ret2
    rw [← HR.out]
    exact ⟨rfl, hS, Turn.refl _ _⟩
  · have hz : ((n : Int) == 0) = false := by simpa using h1
    have H := rbelow_any b s c n w hs hc (by omega) hn2 hS
    rcases hL : belowL s n c with _ | ⟨v, d⟩
    · rw [hL] at H
      have HH := Lib.hid H
      have HL := Lib.hid hL
      clear H hL
      go_enter Try.func32, Try.ntmps32
      go_wp2_with fail
      refine HH.out.mono ?_
      rintro e w1 ⟨rfl, ⟨d, hd, hS1⟩, hg⟩
      have k1 := hS1.c1
      have k2 := hS1.f1
      go_wp2
      go_ret2
      have e : r = (0, 4, c) := by rw [← HR.out, belowR, if_neg h1, HL.out]
      subst e
      exact ⟨rfl, hS1.set c, (Turn.of_grown hg (by simp)).setCell (.inl (by simp)) _⟩
    · rw [hL] at H
      have HH := Lib.hid H
      have HL := Lib.hid hL
      clear H hL
      go_enter Try.func32, Try.ntmps32
      go_wp2_with fail
      refine HH.out.mono ?_
      rintro e w1 ⟨rfl, hS1, hg⟩
      go_wp2
      go_ret2
      have e : r = (v, 0, d) := by rw [← HR.out, belowR, if_neg h1, HL.out]
      subst e
      exact ⟨rfl, hS1, Turn.of_grown hg (by simp)⟩
end Go.Proofs.Ytkjfpaaiomioaaa
