/- Two equal lists are found equal: SameWords. -/
import Derived.Test.YtkjfpaaiomioaaaSupL
namespace Go.Proofs.Ytkjfpaaiomioaaa
open Go.RowKit Go.Shelf

set_option maxHeartbeats 400000 in
theorem sameWords_nil (a1 a2 : Option Addr) (c1 c2 : Nat) (w : World) :
    Calls Try.prog 34 #[.slice a1 0 c1, .slice a2 0 c2] w fun e w' => e = .returned (.bool true) ∧ ∃ k, w' = w.drewN k := by
  go_enter Try.func34, Try.ntmps34
  go_wp2
  refine wp_loop_rounds 1 ?_
  rw [rounds_succ]
  go_wp2
  go_ret
  exact ⟨rfl, 0, rfl⟩

set_option maxHeartbeats 1000000 in
theorem sameWords_some (g1 g2 : Nat) (c1 c2 : Nat) (l : List Int) (w : World) (hn : l.length ≤ 9223372036854775807)
    (h1 : ∀ k, k < l.length → w.cell? ⟨g1, k, none⟩ = some (.int .u32 (l.getD k 0))) (h2 : ∀ k, k < l.length → w.cell? ⟨g2, k, none⟩ = some (.int .u32 (l.getD k 0))) :
    Calls Try.prog 34 #[.slice (some ⟨g1, 0, none⟩) l.length c1, .slice (some ⟨g2, 0, none⟩) l.length c2] w fun e w' => e = .returned (.bool true) ∧ ∃ k, w' = w.drewN k := by
  obtain ⟨n, hn'⟩ : ∃ n, l.length = n := ⟨_, rfl⟩
  rw [hn'] at h1 h2 hn ⊢
  clear hn'
  have H1 := Lib.hid h1
  have H2 := Lib.hid h2
  clear h1 h2
  go_enter Try.func34, Try.ntmps34
  go_wp2
  go_loopw [5] (fun i wr => ∃ k m : Nat, k ≤ n ∧ i = .int .i64 k ∧ wr = w.drewN m) (fun i _ => n - (intOf i).toNat)
  case atStart => exact ⟨0, 0, Nat.zero_le _, rfl, rfl⟩
  case round =>
    obtain ⟨k, m, hk, rfl, rfl⟩ := hrel
    by_cases hlt : k < n
    · have g1' := H1.out k hlt
      have g2' := H2.out k hlt
      obtain ⟨x, hx⟩ : ∃ x, l.getD k 0 = x := ⟨_, rfl⟩
      rw [hx] at g1' g2'
      clear hx
      go_wp2
      go_quiet (fail)
      go_wp2
      go_roundw
      case rel => exact ⟨k + 1, _, by omega, by go_num, rfl⟩
      case measure => simp [intOf]; omega
    · go_wp2
      go_ret
      exact ⟨rfl, m, rfl⟩

/-- What an owned row of integers is. -/
theorem sameWords_eq (v1 v2 : Value) (l : List Int) (w : World) (hn : l.length ≤ 9223372036854775807) (h1 : w.ownsRow 0 39 1 v1 l.length (l.map (Value.int .u32))) (h2 : w.ownsRow 0 39 1 v2 l.length (l.map (Value.int .u32))) :
    Calls Try.prog 34 #[v1, v2] w fun e w' => e = .returned (.bool true) ∧ ∃ k, w' = w.drewN k := by
  by_cases h0 : l.length = 0
  · rw [h0] at h1 h2
    obtain ⟨a1, c1, rfl⟩ : ∃ a c, v1 = .slice a 0 c := by
      rcases h1.2 with ⟨h, _⟩ | ⟨g, cap, cur, h, _⟩
      · exact ⟨_, _, h⟩
      · exact ⟨_, _, h⟩
    obtain ⟨a2, c2, rfl⟩ : ∃ a c, v2 = .slice a 0 c := by
      rcases h2.2 with ⟨h, _⟩ | ⟨g, cap, cur, h, _⟩
      · exact ⟨_, _, h⟩
      · exact ⟨_, _, h⟩
    exact sameWords_nil a1 a2 c1 c2 w
  · rcases h1.2 with ⟨_, h⟩ | ⟨g1, cap1, cur1, rfl, _⟩
    · exact absurd h h0
    rcases h2.2 with ⟨_, h⟩ | ⟨g2, cap2, cur2, rfl, _⟩
    · exact absurd h h0
    refine sameWords_some g1 g2 cap1 cap2 l w hn ?_ ?_
    · intro k hk
      rw [h1.cellAt k (by omega)]
      simp [List.getD_eq_getElem?_getD, hk]
    · intro k hk
      rw [h2.cellAt k (by omega)]
      simp [List.getD_eq_getElem?_getD, hk]
end Go.Proofs.Ytkjfpaaiomioaaa
