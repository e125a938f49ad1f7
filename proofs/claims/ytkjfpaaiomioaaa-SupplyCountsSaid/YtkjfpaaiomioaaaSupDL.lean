/- An act of both supplies is alike: lists. -/
import Derived.Test.YtkjfpaaiomioaaaSupD
namespace Go.Proofs.Ytkjfpaaiomioaaa
open Go.RowKit Go.Shelf

set_option maxHeartbeats 1000000 in
theorem does_uniform (b1 b2 : Nat) (s1 s2 : ByteArray) (c what : Nat) (n h : Int) (q : Nat) (w : World) (hs1 : s1.size ≤ 1048576) (hs2 : s2.size ≤ 1048576) (hc1 : c ≤ 8 * s1.size) (hc2 : c ≤ 8 * s2.size) (_hq : q ≤ 18446744073709551615) (hS : SupAt w b1 s1 c) (hR : RefAt w b2 s2 c)
    (hne : b1 ≠ b2) (hw5 : what % 5 = 2) (hw : what ≤ 255) (hA : uniformR s2 c n (q % 4294967296) = uniformR s1 c n (q % 4294967296)) (hlen : (uniformR s1 c n (q % 4294967296)).1.length ≤ 100000) :
    Calls Try.prog 15 #[.pointer (some ⟨b1, 0, none⟩), .pointer (some ⟨b2, 0, none⟩), .agg #[.int .u8 what, .int .i64 n, .int .i64 h, .int .u64 q]] w (DoesPost w b1 b2 s1 s2 (uniformR s1 c n (q % 4294967296)).2.2) := by
  have e5 : (what : Int) % 5 = 2 := by omega
  have H1 := Lib.hid hA
  clear hA hw5
  have hb1 := hS.lt
  have hb2 := hR.lt
  obtain ⟨r, hr⟩ : ∃ r, uniformR s1 c n (q % 4294967296) = r := ⟨_, rfl⟩
  rw [hr] at hlen ⊢
  have HR := Lib.hid hr
  clear hr
  obtain ⟨r1, r2, r3⟩ := r
  go_enter Try.func15, Try.ntmps15
  go_wp2_with fail
  rw [show ((q : Int) % 4294967296) = ((q % 4294967296 : Nat) : Int) from by omega]
  refine (uniform_sup b1 s1 c (q % 4294967296) n _ hs1 hc1 (by omega) (hS.alloc _)).mono ?_
  rw [HR.out]
  rintro e w1 ⟨v1, rfl, hv1, hB1, hS1, hT1⟩
  have hR1 := (hR.alloc (.cells #[.int .u8 what, .int .i64 n, .int .i64 h, .int .u64 q] 47)).turn hT1 (by simpa using hne.symm)
  have hA1 := hT1.at (act_new w what n h q) (by simp; omega)
  obtain ⟨a1, a2, a3⟩ := act_cell hA1
  have HA1 := Lib.hid hA1
  have HB1 := Lib.hid hB1
  have HV1 := Lib.hid hv1
  clear hA1 hB1 hv1
  go_wp2_with fail
  rw [show ((q : Int) % 4294967296) = ((q % 4294967296 : Nat) : Int) from by omega]
  refine (runiform b2 s2 c (q % 4294967296) n _ hs2 hc2 (by omega) hR1).mono ?_
  rw [H1.out, HR.out]
  rintro e w2 ⟨v2, rfl, hv2, hB2, hR2, hT2⟩
  have HB2 := Lib.hid hB2
  have HV2 := Lib.hid hv2
  clear hB2 hv2
  have hv1' := owns_turn HV1.out hT2 (fun k hk => by have := HB1.out k hk; simp at this; simp; omega)
  have HV3 := Lib.hid hv1'
  clear hv1'
  go_wp2_with fail
  refine (sameWords_eq v1 v2 r1 w2 (by have h : r1.length ≤ 100000 := hlen; omega) HV3.out HV2.out).mono ?_
  rintro e w3 ⟨rfl, k, rfl⟩
  go_wp2
  go_ret
  exact ⟨rfl, (hS1.turn hT2 (by simpa using hne)).drewN k, hR2.drewN k, ((((Turn.refl w [b1, b2]).alloc _).new hT1 (fun j hj => by simp at hj; exact .inr (by simp [hj]))).new hT2 (fun j hj => by simp at hj; exact .inr (by simp [hj]))).drewN k⟩

set_option maxHeartbeats 1000000 in
theorem does_ternary (b1 b2 : Nat) (s1 s2 : ByteArray) (c what : Nat) (n h : Int) (q : Nat) (w : World) (hs1 : s1.size ≤ 1048576) (hs2 : s2.size ≤ 1048576) (hc1 : c ≤ 8 * s1.size) (hc2 : c ≤ 8 * s2.size) (_hq : q ≤ 18446744073709551615) (hS : SupAt w b1 s1 c) (hR : RefAt w b2 s2 c)
    (hne : b1 ≠ b2) (hw5 : what % 5 = 3) (hw : what ≤ 255) (hA : ternaryR s2 c n h = ternaryR s1 c n h) (hlen : (ternaryR s1 c n h).1.length ≤ 100000) :
    Calls Try.prog 15 #[.pointer (some ⟨b1, 0, none⟩), .pointer (some ⟨b2, 0, none⟩), .agg #[.int .u8 what, .int .i64 n, .int .i64 h, .int .u64 q]] w (DoesPost w b1 b2 s1 s2 (ternaryR s1 c n h).2.2) := by
  have e5 : (what : Int) % 5 = 3 := by omega
  have H1 := Lib.hid hA
  clear hA hw5
  have hb1 := hS.lt
  have hb2 := hR.lt
  obtain ⟨r, hr⟩ : ∃ r, ternaryR s1 c n h = r := ⟨_, rfl⟩
  rw [hr] at hlen ⊢
  have HR := Lib.hid hr
  clear hr
  obtain ⟨r1, r2, r3⟩ := r
  go_enter Try.func15, Try.ntmps15
  go_wp2_with fail
  refine (ternary_sup b1 s1 c n h _ hs1 hc1 (hS.alloc _)).mono ?_
  rw [HR.out]
  rintro e w1 ⟨v1, rfl, hv1, hB1, hS1, hT1⟩
  have hR1 := (hR.alloc (.cells #[.int .u8 what, .int .i64 n, .int .i64 h, .int .u64 q] 47)).turn hT1 (by simpa using hne.symm)
  have hA1 := hT1.at (act_new w what n h q) (by simp; omega)
  obtain ⟨a1, a2, a3⟩ := act_cell hA1
  have HA1 := Lib.hid hA1
  have HB1 := Lib.hid hB1
  have HV1 := Lib.hid hv1
  clear hA1 hB1 hv1
  go_wp2_with fail
  refine (rternary b2 s2 c n h _ hs2 hc2 hR1).mono ?_
  rw [H1.out, HR.out]
  rintro e w2 ⟨v2, rfl, hv2, hB2, hR2, hT2⟩
  have HB2 := Lib.hid hB2
  have HV2 := Lib.hid hv2
  clear hB2 hv2
  have hv1' := owns_turn HV1.out hT2 (fun k hk => by have := HB1.out k hk; simp at this; simp; omega)
  have HV3 := Lib.hid hv1'
  clear hv1'
  go_wp2_with fail
  refine (small_eq v1 v2 r1 w2 (by have h : r1.length ≤ 100000 := hlen; omega) HV3.out HV2.out).mono ?_
  rintro e w3 ⟨rfl, k, rfl⟩
  go_wp2
  go_ret
  exact ⟨rfl, (hS1.turn hT2 (by simpa using hne)).drewN k, hR2.drewN k, ((((Turn.refl w [b1, b2]).alloc _).new hT1 (fun j hj => by simp at hj; exact .inr (by simp [hj]))).new hT2 (fun j hj => by simp at hj; exact .inr (by simp [hj]))).drewN k⟩

set_option maxHeartbeats 1000000 in
theorem does_bounded (b1 b2 : Nat) (s1 s2 : ByteArray) (c what : Nat) (n h : Int) (q : Nat) (w : World) (hs1 : s1.size ≤ 1048576) (hs2 : s2.size ≤ 1048576) (hc1 : c ≤ 8 * s1.size) (hc2 : c ≤ 8 * s2.size) (_hq : q ≤ 18446744073709551615) (hS : SupAt w b1 s1 c) (hR : RefAt w b2 s2 c)
    (hne : b1 ≠ b2) (hw5 : what % 5 = 4) (hw : what ≤ 255) (hA : boundedR s2 c n (q % 4294967296) = boundedR s1 c n (q % 4294967296)) (hlen : (boundedR s1 c n (q % 4294967296)).1.length ≤ 100000) :
    Calls Try.prog 15 #[.pointer (some ⟨b1, 0, none⟩), .pointer (some ⟨b2, 0, none⟩), .agg #[.int .u8 what, .int .i64 n, .int .i64 h, .int .u64 q]] w (DoesPost w b1 b2 s1 s2 (boundedR s1 c n (q % 4294967296)).2.2) := by
  have e5 : (what : Int) % 5 = 4 := by omega
  have H1 := Lib.hid hA
  clear hA hw5
  have hb1 := hS.lt
  have hb2 := hR.lt
  obtain ⟨r, hr⟩ : ∃ r, boundedR s1 c n (q % 4294967296) = r := ⟨_, rfl⟩
  rw [hr] at hlen ⊢
  have HR := Lib.hid hr
  clear hr
  obtain ⟨r1, r2, r3⟩ := r
  go_enter Try.func15, Try.ntmps15
  go_wp2_with fail
  rw [show ((q : Int) % 4294967296) = ((q % 4294967296 : Nat) : Int) from by omega]
  refine (bounded_sup b1 s1 c (q % 4294967296) n _ hs1 hc1 (by omega) (hS.alloc _)).mono ?_
  rw [HR.out]
  rintro e w1 ⟨v1, rfl, hv1, hB1, hS1, hT1⟩
  have hR1 := (hR.alloc (.cells #[.int .u8 what, .int .i64 n, .int .i64 h, .int .u64 q] 47)).turn hT1 (by simpa using hne.symm)
  have hA1 := hT1.at (act_new w what n h q) (by simp; omega)
  obtain ⟨a1, a2, a3⟩ := act_cell hA1
  have HA1 := Lib.hid hA1
  have HB1 := Lib.hid hB1
  have HV1 := Lib.hid hv1
  clear hA1 hB1 hv1
  go_wp2_with fail
  rw [show ((q : Int) % 4294967296) = ((q % 4294967296 : Nat) : Int) from by omega]
  refine (rbounded b2 s2 c (q % 4294967296) n _ hs2 hc2 (by omega) hR1).mono ?_
  rw [H1.out, HR.out]
  rintro e w2 ⟨v2, rfl, hv2, hB2, hR2, hT2⟩
  have HB2 := Lib.hid hB2
  have HV2 := Lib.hid hv2
  clear hB2 hv2
  have hv1' := owns_turn HV1.out hT2 (fun k hk => by have := HB1.out k hk; simp at this; simp; omega)
  have HV3 := Lib.hid hv1'
  clear hv1'
  go_wp2_with fail
  refine (sameLongs_eq v1 v2 r1 w2 (by have h : r1.length ≤ 100000 := hlen; omega) HV3.out HV2.out).mono ?_
  rintro e w3 ⟨rfl, k, rfl⟩
  go_wp2
  go_ret
  exact ⟨rfl, (hS1.turn hT2 (by simpa using hne)).drewN k, hR2.drewN k, ((((Turn.refl w [b1, b2]).alloc _).new hT1 (fun j hj => by simp at hj; exact .inr (by simp [hj]))).new hT2 (fun j hj => by simp at hj; exact .inr (by simp [hj]))).drewN k⟩

/-- What an act comes to: where the next bit stands. -/
def actD (s : ByteArray) (c what : Nat) (n h : Int) (q : Nat) : Nat :=
  match what % 5 with
  | 0 => (bitsR s c n).2.2
  | 1 => (belowR s c q).2.2
  | 2 => (uniformR s c n (q % 4294967296)).2.2
  | 3 => (ternaryR s c n h).2.2
  | _ => (boundedR s c n (q % 4294967296)).2.2
/-- An act comes to the same of two strings. -/
def Agree (s1 s2 : ByteArray) (c what : Nat) (n h : Int) (q : Nat) : Prop :=
  (what % 5 = 0 → bitsR s2 c n = bitsR s1 c n) ∧ (what % 5 = 1 → belowR s2 c q = belowR s1 c q) ∧ (what % 5 = 2 → uniformR s2 c n (q % 4294967296) = uniformR s1 c n (q % 4294967296)) ∧
    (what % 5 = 3 → ternaryR s2 c n h = ternaryR s1 c n h) ∧ (what % 5 = 4 → boundedR s2 c n (q % 4294967296) = boundedR s1 c n (q % 4294967296))
theorem Agree.refl (s : ByteArray) (c what : Nat) (n h : Int) (q : Nat) : Agree s s c what n h q := ⟨fun _ => rfl, fun _ => rfl, fun _ => rfl, fun _ => rfl, fun _ => rfl⟩

theorem bitsR_le {s : ByteArray} {c : Nat} (hc : c ≤ 8 * s.size) (n : Int) : c ≤ (bitsR s c n).2.2 ∧ (bitsR s c n).2.2 ≤ 8 * s.size := by
  unfold bitsR
  by_cases h1 : n < 1 ∨ 64 < n
  · rw [if_pos h1]; exact ⟨Nat.le_refl _, hc⟩
  · rw [if_neg h1]
    by_cases h2 : c + n.toNat ≤ 8 * s.size
    · rw [if_pos h2]; exact ⟨Nat.le_add_right _ _, h2⟩
    · rw [if_neg h2]; exact ⟨Nat.le_refl _, hc⟩
theorem belowR_le {s : ByteArray} {c : Nat} (hc : c ≤ 8 * s.size) (n : Nat) : c ≤ (belowR s c n).2.2 ∧ (belowR s c n).2.2 ≤ 8 * s.size := by
  unfold belowR
  by_cases h1 : n = 0
  · rw [if_pos h1]; exact ⟨Nat.le_refl _, hc⟩
  · rw [if_neg h1]
    rcases h : belowL s n c with _ | ⟨v, d⟩
    · exact ⟨Nat.le_refl _, hc⟩
    · have := belowL_spec h; exact ⟨this.2.1, this.2.2⟩
theorem uniformR_le {s : ByteArray} {c : Nat} (hc : c ≤ 8 * s.size) (n : Int) (q : Nat) : c ≤ (uniformR s c n q).2.2 ∧ (uniformR s c n q).2.2 ≤ 8 * s.size ∧ (uniformR s c n q).1.length ≤ 4096 := by
  unfold uniformR
  by_cases h1 : n < 0 ∨ 4096 < n ∨ q < 1
  · rw [if_pos h1]; exact ⟨Nat.le_refl _, hc, by simp⟩
  · rw [if_neg h1]
    rcases h : takeL s q n.toNat c with _ | ⟨l, d⟩
    · exact ⟨Nat.le_refl _, hc, by simp⟩
    · have := takeL_spec hc h; exact ⟨this.2.2.1, this.2.2.2, by simp [this.1]; omega⟩
theorem boundedR_le {s : ByteArray} {c : Nat} (hc : c ≤ 8 * s.size) (n : Int) (q : Nat) : c ≤ (boundedR s c n q).2.2 ∧ (boundedR s c n q).2.2 ≤ 8 * s.size ∧ (boundedR s c n q).1.length ≤ 4096 := by
  unfold boundedR
  by_cases h1 : n < 0 ∨ 4096 < n ∨ 2147483647 < q
  · rw [if_pos h1]; exact ⟨Nat.le_refl _, hc, by simp⟩
  · rw [if_neg h1]
    rcases h : takeL s (2 * q + 1) n.toNat c with _ | ⟨l, d⟩
    · exact ⟨Nat.le_refl _, hc, by simp⟩
    · have := takeL_spec hc h; exact ⟨this.2.2.1, this.2.2.2, by simp [this.1]; omega⟩
theorem ternF_up {s : ByteArray} {n c : Nat} : ∀ {i d : Nat} {L O : List Int}, ternF s n i c = some (L, O, d) → c ≤ d
  | 0, d, L, O, h => by simp [ternF] at h; omega
  | i + 1, d, L, O, h => by
    rcases h1 : ternF s n i c with _ | ⟨L1, O1, d1⟩
    · rw [ternF_none h1 (i + 1) (by omega)] at h; simp at h
    · have e := ternF_up h1
      rcases h2 : belowL s (n - i) d1 with _ | ⟨j, d2⟩
      · rw [ternF_stop h1 h2] at h; simp at h
      · by_cases h3 : d2 < 8 * s.size
        · rw [ternF_more h1 h2 h3] at h
          simp only [Option.some.injEq, Prod.mk.injEq] at h
          have := belowL_spec h2; omega
        · rw [ternF_short h1 h2 h3] at h; simp at h
theorem ternaryR_le {s : ByteArray} {c : Nat} (hc : c ≤ 8 * s.size) (n h : Int) : c ≤ (ternaryR s c n h).2.2 ∧ (ternaryR s c n h).2.2 ≤ 8 * s.size ∧ (ternaryR s c n h).1.length ≤ 4096 := by
  unfold ternaryR
  by_cases h1 : n < 1 ∨ 4096 < n ∨ h < 0 ∨ n < h
  · rw [if_pos h1]; exact ⟨Nat.le_refl _, hc, by simp⟩
  · rw [if_neg h1]
    rcases hh : ternF s n.toNat h.toNat c with _ | ⟨L, O, d⟩
    · exact ⟨Nat.le_refl _, hc, by simp⟩
    · have := ternF_spec hc (by omega) hh; exact ⟨ternF_up hh, this.2.2.2, by have := this.2.1; simp; omega⟩
theorem actD_le {s : ByteArray} {c : Nat} (hc : c ≤ 8 * s.size) (what : Nat) (n h : Int) (q : Nat) : c ≤ actD s c what n h q ∧ actD s c what n h q ≤ 8 * s.size := by
  unfold actD
  split
  · exact bitsR_le hc n
  · exact belowR_le hc q
  · exact ⟨(uniformR_le hc n _).1, (uniformR_le hc n _).2.1⟩
  · exact ⟨(ternaryR_le hc n h).1, (ternaryR_le hc n h).2.1⟩
  · exact ⟨(boundedR_le hc n _).1, (boundedR_le hc n _).2.1⟩

theorem does_any (b1 b2 : Nat) (s1 s2 : ByteArray) (c what : Nat) (n h : Int) (q : Nat) (w : World) (hs1 : s1.size ≤ 1048576) (hs2 : s2.size ≤ 1048576) (hc1 : c ≤ 8 * s1.size) (hc2 : c ≤ 8 * s2.size) (hq : q ≤ 18446744073709551615) (hS : SupAt w b1 s1 c) (hR : RefAt w b2 s2 c)
    (hne : b1 ≠ b2) (hw : what ≤ 255) (hA : Agree s1 s2 c what n h q) :
    Calls Try.prog 15 #[.pointer (some ⟨b1, 0, none⟩), .pointer (some ⟨b2, 0, none⟩), .agg #[.int .u8 what, .int .i64 n, .int .i64 h, .int .u64 q]] w (DoesPost w b1 b2 s1 s2 (actD s1 c what n h q)) := by
  obtain ⟨A0, A1, A2, A3, A4⟩ := hA
  unfold actD
  rcases (show what % 5 = 0 ∨ what % 5 = 1 ∨ what % 5 = 2 ∨ what % 5 = 3 ∨ what % 5 = 4 by omega) with h5 | h5 | h5 | h5 | h5
  · rw [h5]; exact does_bits b1 b2 s1 s2 c what n h q w hs1 hs2 hc1 hc2 hq hS hR hne h5 hw (A0 h5)
  · rw [h5]; exact does_below b1 b2 s1 s2 c what n h q w hs1 hs2 hc1 hc2 hq hS hR hne h5 hw (A1 h5)
  · rw [h5]; exact does_uniform b1 b2 s1 s2 c what n h q w hs1 hs2 hc1 hc2 hq hS hR hne h5 hw (A2 h5) (by have := (uniformR_le hc1 n (q % 4294967296)).2.2; omega)
  · rw [h5]; exact does_ternary b1 b2 s1 s2 c what n h q w hs1 hs2 hc1 hc2 hq hS hR hne h5 hw (A3 h5) (by have := (ternaryR_le hc1 n h).2.2; omega)
  · rw [h5]; exact does_bounded b1 b2 s1 s2 c what n h q w hs1 hs2 hc1 hc2 hq hS hR hne h5 hw (A4 h5) (by have := (boundedR_le hc1 n (q % 4294967296)).2.2; omega)
end Go.Proofs.Ytkjfpaaiomioaaa
