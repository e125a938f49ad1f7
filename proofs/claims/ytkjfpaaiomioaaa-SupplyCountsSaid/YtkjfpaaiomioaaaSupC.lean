/- The program's supply: Below, with its closure. -/
import Derived.Test.YtkjfpaaiomioaaaSupB
import Derived.Test.YtkjfpaaiomioaaaSupT
namespace Go.Proofs.Ytkjfpaaiomioaaa
open Go.RowKit Go.Shelf

theorem enters_belowC : ∀ args w, (callFunc 26 args).run Try.prog w = .ok (.enter 26 args) w := enters_of Try.func26 (by kernel_rfl) rfl

theorem belowC_yes (b p q r : Nat) (s : ByteArray) (c n v d : Nat) (x : Value) (w : World) (hs : s.size ≤ 1048576) (hc : c ≤ 8 * s.size) (hn : 1 ≤ n) (hn2 : n ≤ 18446744073709551615) (hS : SupAt w b s c)
    (hp : w.cell? ⟨p, 0, none⟩ = some (.pointer (some ⟨b, 0, none⟩))) (hq : w.cell? ⟨q, 0, none⟩ = some (.int .u64 n)) (hr : w.heap[r]? = some (.cells #[x] 28 (0, 0))) (hrb : r ≠ b)
    (hL : belowL s n c = some (v, d)) :
    Calls Try.prog 26 #[.pointer (some ⟨p, 0, none⟩), .pointer (some ⟨q, 0, none⟩), .pointer (some ⟨r, 0, none⟩)] w fun e w' =>
      e = .returned (.bool true) ∧ (SupAt w' b s d ∧ w'.heap[r]? = some (.cells #[.int .u64 v] 28 (0, 0)) ∧ Turn w w' [b, r]) := by
  have H := below_any b s c n w hs hc hn hn2 hS
  rw [hL] at H
  have HH := Lib.hid H
  clear H hL
  go_enter Try.func26, Try.ntmps26
  go_wp2_with fail
  refine HH.out.mono ?_
  rintro e w1 ⟨rfl, hS1, hg1⟩
  have hr1 := (hg1.block r (block_lt hr) (by simpa using hrb)).trans hr
  have k1 := cell_of_one hr1
  have k2 := free_of_one hr1
  have HR1 := Lib.hid hr1
  clear hr1
  go_wp2
  go_ret
  exact ⟨rfl, hS1.other (by exact fun e => hrb e.symm) _, one_setCell HR1.out, ((Turn.of_grown hg1 (by simp)).setCell (.inl (by simp)) _)⟩

theorem belowC_no (b p q r : Nat) (s : ByteArray) (c n : Nat) (x : Value) (w : World) (hs : s.size ≤ 1048576) (hc : c ≤ 8 * s.size) (hn : 1 ≤ n) (hn2 : n ≤ 18446744073709551615) (hS : SupAt w b s c)
    (hp : w.cell? ⟨p, 0, none⟩ = some (.pointer (some ⟨b, 0, none⟩))) (hq : w.cell? ⟨q, 0, none⟩ = some (.int .u64 n)) (hr : w.heap[r]? = some (.cells #[x] 28 (0, 0))) (hrb : r ≠ b)
    (hL : belowL s n c = none) :
    Calls Try.prog 26 #[.pointer (some ⟨p, 0, none⟩), .pointer (some ⟨q, 0, none⟩), .pointer (some ⟨r, 0, none⟩)] w fun e w' =>
      e = .returned (.bool false) ∧ ((∃ d, SupAt w' b s d) ∧ Turn w w' [b, r]) := by
  have H := below_any b s c n w hs hc hn hn2 hS
  rw [hL] at H
  have HH := Lib.hid H
  clear H hL
  go_enter Try.func26, Try.ntmps26
  go_wp2_with fail
  refine HH.out.mono ?_
  rintro e w1 ⟨rfl, ⟨d, hd, hS1⟩, hg1⟩
  have hr1 := (hg1.block r (block_lt hr) (by simpa using hrb)).trans hr
  have k1 := cell_of_one hr1
  have k2 := free_of_one hr1
  clear hr1
  go_wp2
  go_ret
  exact ⟨rfl, ⟨d, hS1.other (by exact fun e => hrb e.symm) _⟩, ((Turn.of_grown hg1 (by simp)).setCell (.inl (by simp)) _)⟩

theorem none_sup (b : Nat) (s : ByteArray) (c : Nat) (w : World) (hS : SupAt w b s c) :
    Calls Try.prog 24 #[.pointer (some ⟨b, 0, none⟩)] w fun e w' => e = .returned (.bool false) ∧ w' = w := by
  have h2 := hS.c2
  go_enter Try.func24, Try.ntmps24
  go_wp2
  go_ret
  exact ⟨rfl, rfl⟩
theorem left_sup (b : Nat) (s : ByteArray) (c : Nat) (w : World) (hs : s.size ≤ 1048576) (hc : c ≤ 8 * s.size) (hS : SupAt w b s c) :
    Calls Try.prog 16 #[.pointer (some ⟨b, 0, none⟩)] w fun e w' => e = .returned (.int .i64 ((8 * s.size - c : Nat) : Int)) ∧ ∃ k, w' = w.drewN k := by
  have h0 := hS.c0
  have h1 := hS.c1
  go_enter Try.func16, Try.ntmps16
  go_wp2_with fail
  refine (none_sup b s c _ hS).mono ?_
  rintro e w' ⟨rfl, rfl⟩
  go_wp2
  go_quiet (fail)
  go_wp2
  go_ret
  exact ⟨by go_num, _, rfl⟩
theorem taken_sup (b : Nat) (s : ByteArray) (c : Nat) (w : World) (hS : SupAt w b s c) :
    Calls Try.prog 11 #[.pointer (some ⟨b, 0, none⟩)] w fun e w' => e = .returned (.int .i64 c) ∧ w' = w := by
  have h1 := hS.c1
  go_enter Try.func11, Try.ntmps11
  go_wp2_with fail
  refine (none_sup b s c _ hS).mono ?_
  rintro e w' ⟨rfl, rfl⟩
  go_wp2
  go_ret
  exact ⟨rfl, rfl⟩
end Go.Proofs.Ytkjfpaaiomioaaa
