/- SupplyPlays: its walk. -/
import Derived.Test.YtkjfpaaiomioaaaSupDL
import Derived.Test.YtkjfpaaiomioaaaSupS
namespace Go.Proofs.Ytkjfpaaiomioaaa
open Go.RowKit Go.Shelf

/-- Element k of a list of acts. -/
def ActAt (w : World) (a : Addr) (k what : Nat) (n h : Int) (q : Nat) : Prop :=
  what ≤ 255 ∧ q ≤ 18446744073709551615 ∧ w.cell? (a.add (k * 4)) = some (.int .u8 what) ∧ w.cell? (a.add (k * 4 + 1)) = some (.int .i64 n) ∧ w.cell? (a.add (k * 4 + 2)) = some (.int .i64 h) ∧ w.cell? (a.add (k * 4 + 3)) = some (.int .u64 q)

theorem add_past (b : Addr) (m j : Nat) (hj : 0 < j) : b.add (m + j) = ⟨(b.add m).block, (b.add m).off + j, none⟩ := by
  unfold Addr.add
  rw [if_neg (by omega)]
  by_cases h : m = 0
  · rw [if_pos h, h, Nat.zero_add]
  · rw [if_neg h]; simp [Nat.add_assoc]

set_option maxRecDepth 100000 in
set_option maxHeartbeats 2000000 in
theorem plays_far (s : ByteArray) (a : Option Addr) (len cap : Nat) (w : World) (hs : s.size ≤ 9223372036854775807) (hl : len ≤ 9223372036854775807) (h : 60 < len ∨ 20000 < s.size) :
    Calls Try.prog 4 #[.string s, .slice a len cap] w fun e w' => e = .returned (.bool true) ∧ Below w.heap.size w w' := by
  by_cases h1 : 20000 < s.size
  · by_cases h2 : s.size ≤ 1048576
    · clear h
      go_enter Try.func4, Try.ntmps4
      go_wp2_with fail
      refine (shown_true _).mono ?_
      rintro e w2 ⟨rfl, hT2⟩
      go_wp2
      go_ret
      exact ⟨rfl, hT2.below⟩
    · have h2' : 1048576 < s.size := by omega
      by_cases h3 : 60 < len
      · clear h h2
        go_enter Try.func4, Try.ntmps4
        go_wp2_with fail
        refine (shown_true _).mono ?_
        rintro e w2 ⟨rfl, hT2⟩
        go_wp2
        go_ret
        exact ⟨rfl, hT2.below⟩
      · clear h h2
        go_enter Try.func4, Try.ntmps4
        go_wp2_with fail
        refine (new_sup_no s _ h2' hs).mono ?_
        rintro e w1 ⟨rfl, rfl⟩
        go_wp2_with fail
        refine (rnew_no s _ h2' hs).mono ?_
        rintro e w1 ⟨rfl, rfl⟩
        go_wp2_with fail
        refine (shown_true _).mono ?_
        rintro e w2 ⟨rfl, hT2⟩
        go_wp2
        go_ret
        exact ⟨rfl, hT2.below⟩
  · have h3 : 60 < len := by omega
    have h1' : s.size ≤ 20000 := by omega
    clear h h1
    go_enter Try.func4, Try.ntmps4
    go_wp2_with fail
    refine (shown_true _).mono ?_
    rintro e w2 ⟨rfl, hT2⟩
    go_wp2
    go_ret
    exact ⟨rfl, hT2.below⟩

set_option maxRecDepth 100000 in
set_option maxHeartbeats 2000000 in
theorem plays_near (s : ByteArray) (a : Option Addr) (len cap : Nat) (w : World) (hs : s.size ≤ 20000) (hl : len ≤ 60) (ha : ∀ k, k < len → ∃ b what n h q, a = some b ∧ ActAt w b k what n h q) :
    Calls Try.prog 4 #[.string s, .slice a len cap] w fun e w' => e = .returned (.bool true) ∧ Below w.heap.size w w' := by
  have HA := Lib.hid ha
  clear ha
  go_enter Try.func4, Try.ntmps4
  go_wp2_with fail
  refine (new_sup s _ (by omega)).mono ?_
  rintro e w1 ⟨rfl, rfl⟩
  go_wp2_with fail
  refine (rnew s _ (by omega)).mono ?_
  rintro e w1 ⟨rfl, rfl⟩
  go_wp2
  obtain ⟨W2, hW2⟩ : ∃ W2, W2 = (w.alloc (.cells #[.string s, .int .i64 0, .bool true] 53)).alloc (.cells #[.string s, .int .i64 0] 67) := ⟨_, rfl⟩
  obtain ⟨y0, y1, y2⟩ := two_at w (.cells #[.string s, .int .i64 0, .bool true] 53) (.cells #[.string s, .int .i64 0] 67)
  have hB : Turn w W2 [] := by rw [hW2]; exact ((Turn.refl _ _).alloc _).alloc _
  rw [← hW2] at y0 y1 y2 ⊢
  have hS0 : SupAt W2 w.heap.size s 0 := y1
  have hR0 : RefAt W2 (w.heap.size + 1) s 0 := y2
  clear y0 y1 y2 hW2
  go_loopw [7] (fun i wr => ∃ k c : Nat, k ≤ len ∧ i = .int .i64 k ∧ c ≤ 8 * s.size ∧ SupAt wr w.heap.size s c ∧ RefAt wr (w.heap.size + 1) s c ∧ Turn w wr []) (fun i _ => len - (intOf i).toNat)
  case atStart => exact ⟨0, 0, by omega, rfl, by omega, hS0, hR0, hB⟩
  case round =>
    obtain ⟨k, c, hk, rfl, hc, hS, hR, hT⟩ := hrel
    by_cases hlt : k < len
    · obtain ⟨b, what, n, h, q, rfl, hwhat, hq, c0, c1, c2, c3⟩ := HA.out k hlt
      have d0 := hT.cell c0 (by simp)
      have d1 := hT.cell c1 (by simp)
      have d2 := hT.cell c2 (by simp)
      have d3 := hT.cell c3 (by simp)
      rw [add_past _ _ _ (by decide)] at d1 d2 d3
      clear c0 c1 c2 c3
      go_wp2_with fail
      refine (does_any w.heap.size (w.heap.size + 1) s s c what n h q _ (by omega) (by omega) hc hc hq hS hR (by omega) hwhat (Agree.refl _ _ _ _ _ _)).mono ?_
      rintro e w1 ⟨rfl, hS1, hR1, hT1⟩
      have hd := (actD_le hc what n h q).2
      obtain ⟨d, hdd⟩ : ∃ d, actD s c what n h q = d := ⟨_, rfl⟩
      rw [hdd] at hS1 hR1 hd
      clear hdd
      go_wp2_with fail
      refine (left_sup _ s d _ (by omega) hd hS1).mono ?_
      rintro e w2 ⟨rfl, x1, rfl⟩
      go_wp2_with fail
      refine (rleft _ s d _ (by omega) hd (hR1.drewN x1)).mono ?_
      rintro e w2 ⟨rfl, x2, rfl⟩
      go_wp2_with fail
      refine (taken_sup _ s d _ (hS1.drewN (x1 + x2))).mono ?_
      rintro e w2 ⟨rfl, rfl⟩
      go_wp2_with fail
      refine (rtaken _ s d _ (hR1.drewN (x1 + x2))).mono ?_
      rintro e w2 ⟨rfl, rfl⟩
      go_wp2
      go_roundw
      case rel => exact ⟨k + 1, d, by omega, by go_num, hd, hS1.drewN (x1 + x2), hR1.drewN (x1 + x2), (hT.new hT1 (fun j hj => by simp at hj; exact .inl (by omega))).drewN (x1 + x2)⟩
      case measure => simp [intOf]; omega
    · go_wp2_with fail
      refine (shown_true _).mono ?_
      rintro e w2 ⟨rfl, hT2⟩
      go_wp2
      go_ret
      exact ⟨rfl, (hT.trans hT2).below⟩

theorem lawPlays (s : ByteArray) (a : Option Addr) (len cap : Nat) (w : World) (hs : s.size ≤ maxLen) (hl : len ≤ maxLen) (ha : ∀ k, k < len → ∃ b what n h q, a = some b ∧ ActAt w b k what n h q) :
    Calls Try.prog 4 #[.string s, .slice a len cap] w fun e w' => e = .returned (.bool true) ∧ Below w.heap.size w w' := by
  unfold maxLen at hs hl
  by_cases h : 60 < len ∨ 20000 < s.size
  · exact plays_far s a len cap w hs hl h
  · exact plays_near s a len cap w (by omega) (by omega) ha
end Go.Proofs.Ytkjfpaaiomioaaa
