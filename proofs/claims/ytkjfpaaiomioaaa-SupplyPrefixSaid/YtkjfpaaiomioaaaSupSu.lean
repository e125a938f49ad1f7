/- Does the reference do an act without an error? And: bits are passed over. -/
import Derived.Test.YtkjfpaaiomioaaaSupPre
namespace Go.Proofs.Ytkjfpaaiomioaaa
open Go.RowKit Go.Shelf

theorem rskip (b : Nat) (s : ByteArray) (c d : Nat) (w : World) (hc : c ≤ 9000000) (hd : d ≤ 9000000) (hS : RefAt w b s c) :
    Calls Try.prog 19 #[.pointer (some ⟨b, 0, none⟩), .int .i64 d] w fun e w' => e = .returned (.tuple #[]) ∧ RefAt w' b s (c + d) ∧ Turn w w' [b] := by
  have h1 := hS.c1
  have h2 := hS.f1
  go_enter Try.func19, Try.ntmps19
  go_wp2
  go_end0
  exact ⟨rfl, hS.set (c + d), (Turn.refl _ _).setCell (.inl (by simp)) _⟩

set_option maxHeartbeats 1000000 in
theorem succ_bits (b2 : Nat) (s2 : ByteArray) (c what : Nat) (n h : Int) (q : Nat) (w : World) (hs2 : s2.size ≤ 1048576) (hc2 : c ≤ 8 * s2.size) (_hq : q ≤ 18446744073709551615) (hR : RefAt w b2 s2 c)
    (hw5 : what % 5 = 0) (hw : what ≤ 255) :
    Calls Try.prog 20 #[.pointer (some ⟨b2, 0, none⟩), .agg #[.int .u8 what, .int .i64 n, .int .i64 h, .int .u64 q]] w fun e w' => e = .returned (.bool ((bitsR s2 c n).2.1 == 0)) ∧ Turn w w' [b2] := by
  have e5 : (what : Int) % 5 = 0 := by omega
  clear hw5
  have hb2 := hR.lt
  obtain ⟨r, hr⟩ : ∃ r, bitsR s2 c n = r := ⟨_, rfl⟩
  rw [hr]
  have HR := Lib.hid hr
  clear hr
  obtain ⟨r1, r2, r3⟩ := r
  go_enter Try.func20, Try.ntmps20
  go_wp2_with fail
  refine (rbits b2 s2 c n _ hs2 hc2 (hR.alloc _)).mono ?_
  rw [HR.out]
  rintro e w2 ⟨rfl, _, hT2⟩
  go_wp2
  go_ret
  exact ⟨rfl, ((Turn.refl w [b2]).alloc _).trans hT2⟩

set_option maxHeartbeats 1000000 in
theorem succ_below (b2 : Nat) (s2 : ByteArray) (c what : Nat) (n h : Int) (q : Nat) (w : World) (hs2 : s2.size ≤ 1048576) (hc2 : c ≤ 8 * s2.size) (_hq : q ≤ 18446744073709551615) (hR : RefAt w b2 s2 c)
    (hw5 : what % 5 = 1) (hw : what ≤ 255) :
    Calls Try.prog 20 #[.pointer (some ⟨b2, 0, none⟩), .agg #[.int .u8 what, .int .i64 n, .int .i64 h, .int .u64 q]] w fun e w' => e = .returned (.bool ((belowR s2 c q).2.1 == 0)) ∧ Turn w w' [b2] := by
  have e5 : (what : Int) % 5 = 1 := by omega
  clear hw5
  have hb2 := hR.lt
  obtain ⟨r, hr⟩ : ∃ r, belowR s2 c q = r := ⟨_, rfl⟩
  rw [hr]
  have HR := Lib.hid hr
  clear hr
  obtain ⟨r1, r2, r3⟩ := r
  go_enter Try.func20, Try.ntmps20
  go_wp2_with fail
  refine (rbelowM b2 s2 c q _ hs2 hc2 _hq (hR.alloc _)).mono ?_
  rw [HR.out]
  rintro e w2 ⟨rfl, _, hT2⟩
  go_wp2
  go_ret
  exact ⟨rfl, ((Turn.refl w [b2]).alloc _).trans hT2⟩

set_option maxHeartbeats 1000000 in
theorem succ_uniform (b2 : Nat) (s2 : ByteArray) (c what : Nat) (n h : Int) (q : Nat) (w : World) (hs2 : s2.size ≤ 1048576) (hc2 : c ≤ 8 * s2.size) (_hq : q ≤ 18446744073709551615) (hR : RefAt w b2 s2 c)
    (hw5 : what % 5 = 2) (hw : what ≤ 255) :
    Calls Try.prog 20 #[.pointer (some ⟨b2, 0, none⟩), .agg #[.int .u8 what, .int .i64 n, .int .i64 h, .int .u64 q]] w fun e w' => e = .returned (.bool ((uniformR s2 c n (q % 4294967296)).2.1 == 0)) ∧ Turn w w' [b2] := by
  have e5 : (what : Int) % 5 = 2 := by omega
  clear hw5
  have hb2 := hR.lt
  obtain ⟨r, hr⟩ : ∃ r, uniformR s2 c n (q % 4294967296) = r := ⟨_, rfl⟩
  rw [hr]
  have HR := Lib.hid hr
  clear hr
  obtain ⟨r1, r2, r3⟩ := r
  go_enter Try.func20, Try.ntmps20
  go_wp2_with fail
  rw [show ((q : Int) % 4294967296) = ((q % 4294967296 : Nat) : Int) from by omega]
  refine (runiform b2 s2 c (q % 4294967296) n _ hs2 hc2 (by omega) (hR.alloc _)).mono ?_
  rw [HR.out]
  rintro e w2 ⟨v2, rfl, _, _, _, hT2⟩
  go_wp2
  go_ret
  exact ⟨rfl, ((Turn.refl w [b2]).alloc _).trans hT2⟩

set_option maxHeartbeats 1000000 in
theorem succ_ternary (b2 : Nat) (s2 : ByteArray) (c what : Nat) (n h : Int) (q : Nat) (w : World) (hs2 : s2.size ≤ 1048576) (hc2 : c ≤ 8 * s2.size) (_hq : q ≤ 18446744073709551615) (hR : RefAt w b2 s2 c)
    (hw5 : what % 5 = 3) (hw : what ≤ 255) :
    Calls Try.prog 20 #[.pointer (some ⟨b2, 0, none⟩), .agg #[.int .u8 what, .int .i64 n, .int .i64 h, .int .u64 q]] w fun e w' => e = .returned (.bool ((ternaryR s2 c n h).2.1 == 0)) ∧ Turn w w' [b2] := by
  have e5 : (what : Int) % 5 = 3 := by omega
  clear hw5
  have hb2 := hR.lt
  obtain ⟨r, hr⟩ : ∃ r, ternaryR s2 c n h = r := ⟨_, rfl⟩
  rw [hr]
  have HR := Lib.hid hr
  clear hr
  obtain ⟨r1, r2, r3⟩ := r
  go_enter Try.func20, Try.ntmps20
  go_wp2_with fail
  refine (rternary b2 s2 c n h _ hs2 hc2 (hR.alloc _)).mono ?_
  rw [HR.out]
  rintro e w2 ⟨v2, rfl, _, _, _, hT2⟩
  go_wp2
  go_ret
  exact ⟨rfl, ((Turn.refl w [b2]).alloc _).trans hT2⟩

set_option maxHeartbeats 1000000 in
theorem succ_bounded (b2 : Nat) (s2 : ByteArray) (c what : Nat) (n h : Int) (q : Nat) (w : World) (hs2 : s2.size ≤ 1048576) (hc2 : c ≤ 8 * s2.size) (_hq : q ≤ 18446744073709551615) (hR : RefAt w b2 s2 c)
    (hw5 : what % 5 = 4) (hw : what ≤ 255) :
    Calls Try.prog 20 #[.pointer (some ⟨b2, 0, none⟩), .agg #[.int .u8 what, .int .i64 n, .int .i64 h, .int .u64 q]] w fun e w' => e = .returned (.bool ((boundedR s2 c n (q % 4294967296)).2.1 == 0)) ∧ Turn w w' [b2] := by
  have e5 : (what : Int) % 5 = 4 := by omega
  clear hw5
  have hb2 := hR.lt
  obtain ⟨r, hr⟩ : ∃ r, boundedR s2 c n (q % 4294967296) = r := ⟨_, rfl⟩
  rw [hr]
  have HR := Lib.hid hr
  clear hr
  obtain ⟨r1, r2, r3⟩ := r
  go_enter Try.func20, Try.ntmps20
  go_wp2_with fail
  rw [show ((q : Int) % 4294967296) = ((q % 4294967296 : Nat) : Int) from by omega]
  refine (rbounded b2 s2 c (q % 4294967296) n _ hs2 hc2 (by omega) (hR.alloc _)).mono ?_
  rw [HR.out]
  rintro e w2 ⟨v2, rfl, _, _, _, hT2⟩
  go_wp2
  go_ret
  exact ⟨rfl, ((Turn.refl w [b2]).alloc _).trans hT2⟩

theorem succ_any (b2 : Nat) (s2 : ByteArray) (c what : Nat) (n h : Int) (q : Nat) (w : World) (hs2 : s2.size ≤ 1048576) (hc2 : c ≤ 8 * s2.size) (hq : q ≤ 18446744073709551615) (hR : RefAt w b2 s2 c) (hw : what ≤ 255) :
    Calls Try.prog 20 #[.pointer (some ⟨b2, 0, none⟩), .agg #[.int .u8 what, .int .i64 n, .int .i64 h, .int .u64 q]] w fun e w' => e = .returned (.bool (actE s2 c what n h q == 0)) ∧ Turn w w' [b2] := by
  unfold actE
  rcases (show what % 5 = 0 ∨ what % 5 = 1 ∨ what % 5 = 2 ∨ what % 5 = 3 ∨ what % 5 = 4 by omega) with h5 | h5 | h5 | h5 | h5
  · rw [h5]; exact succ_bits b2 s2 c what n h q w hs2 hc2 hq hR h5 hw
  · rw [h5]; exact succ_below b2 s2 c what n h q w hs2 hc2 hq hR h5 hw
  · rw [h5]; exact succ_uniform b2 s2 c what n h q w hs2 hc2 hq hR h5 hw
  · rw [h5]; exact succ_ternary b2 s2 c what n h q w hs2 hc2 hq hR h5 hw
  · rw [h5]; exact succ_bounded b2 s2 c what n h q w hs2 hc2 hq hR h5 hw
end Go.Proofs.Ytkjfpaaiomioaaa
