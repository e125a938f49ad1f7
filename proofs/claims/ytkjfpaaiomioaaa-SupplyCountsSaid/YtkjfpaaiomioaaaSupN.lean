/- A supply that is nil or was not made by New: every method returns ErrNil. -/
import Derived.Test.YtkjfpaaiomioaaaSupV
namespace Go.Proofs.Ytkjfpaaiomioaaa
open Go.RowKit Go.Shelf

/-- A pointer to no supply of New, in this world and in each later one in which it has not turned. -/
def NoSup (W : World) (p : Option Addr) : Prop := p = none ∨ ∃ g, p = some ⟨g, 0, none⟩ ∧ W.heap[g]? = some (.cells #[.string ⟨#[]⟩, .int .i64 0, .bool false] 53 (0, 0))
theorem NoSup.turn {W w' : World} {p : Option Addr} (h : NoSup W p) (ht : Turn W w' []) : NoSup w' p := by
  rcases h with rfl | ⟨g, rfl, hg⟩
  · exact .inl rfl
  · exact .inr ⟨g, rfl, ht.at hg (by simp)⟩

theorem none_any (p : Option Addr) (w : World) (h : NoSup w p) : Calls Try.prog 24 #[.pointer p] w fun e w' => e = .returned (.bool true) ∧ w' = w := by
  rcases h with rfl | ⟨g, rfl, hg⟩
  · go_enter Try.func24, Try.ntmps24
    go_wp2
    go_ret
    exact ⟨rfl, rfl⟩
  · have hc : w.cell? ⟨g, 2, none⟩ = some (.bool false) := by simp [World.cell?, hg]
    go_enter Try.func24, Try.ntmps24
    go_wp2
    go_ret
    exact ⟨rfl, rfl⟩
theorem none_bits (p : Option Addr) (n : Int) (w : World) (h : NoSup w p) : Calls Try.prog 21 #[.pointer p, .int .i64 n] w fun e w' => e = .returned (.tuple #[.int .u64 0, .int .i64 1]) ∧ Turn w w' [] := by
  go_enter Try.func21, Try.ntmps21
  go_wp2_with fail
  refine (none_any p _ h).mono ?_
  rintro e w' ⟨rfl, rfl⟩
  go_wp2
  go_ret2
  exact ⟨rfl, Turn.refl _ _⟩
theorem none_below (p : Option Addr) (n : Int) (w : World) (h : NoSup w p) : Calls Try.prog 10 #[.pointer p, .int .u64 n] w fun e w' => e = .returned (.tuple #[.int .u64 0, .int .i64 1]) ∧ Turn w w' [] := by
  go_enter Try.func10, Try.ntmps10
  go_wp2_with fail
  refine (none_any p _ (h.turn (((Turn.refl _ _).alloc _).alloc _))).mono ?_
  rintro e w' ⟨rfl, rfl⟩
  go_wp2
  go_ret2
  exact ⟨rfl, ((Turn.refl _ _).alloc _).alloc _⟩
theorem none_uniform (p : Option Addr) (n q : Int) (w : World) (h : NoSup w p) : Calls Try.prog 22 #[.pointer p, .int .i64 n, .int .u32 q] w fun e w' => e = .returned (.tuple #[.slice none 0 0, .int .i64 1]) ∧ Turn w w' [] := by
  go_enter Try.func22, Try.ntmps22
  go_wp2_with fail
  refine (none_any p _ (h.turn (((Turn.refl _ _).alloc _).alloc _))).mono ?_
  rintro e w' ⟨rfl, rfl⟩
  go_wp2
  go_ret2
  exact ⟨rfl, ((Turn.refl _ _).alloc _).alloc _⟩
theorem none_bounded (p : Option Addr) (n q : Int) (w : World) (h : NoSup w p) : Calls Try.prog 13 #[.pointer p, .int .i64 n, .int .u32 q] w fun e w' => e = .returned (.tuple #[.slice none 0 0, .int .i64 1]) ∧ Turn w w' [] := by
  go_enter Try.func13, Try.ntmps13
  go_wp2_with fail
  refine (none_any p _ (h.turn (((Turn.refl _ _).alloc _).alloc _))).mono ?_
  rintro e w' ⟨rfl, rfl⟩
  go_wp2
  go_ret2
  exact ⟨rfl, ((Turn.refl _ _).alloc _).alloc _⟩
theorem none_ternary (p : Option Addr) (n h' : Int) (w : World) (h : NoSup w p) : Calls Try.prog 12 #[.pointer p, .int .i64 n, .int .i64 h'] w fun e w' => e = .returned (.tuple #[.slice none 0 0, .int .i64 1]) ∧ Turn w w' [] := by
  go_enter Try.func12, Try.ntmps12
  go_wp2_with fail
  refine (none_any p _ (h.turn ((((Turn.refl _ _).alloc _).alloc _).alloc _))).mono ?_
  rintro e w' ⟨rfl, rfl⟩
  go_wp2
  go_ret2
  exact ⟨rfl, (((Turn.refl _ _).alloc _).alloc _).alloc _⟩
theorem none_left (p : Option Addr) (w : World) (h : NoSup w p) : Calls Try.prog 16 #[.pointer p] w fun e w' => e = .returned (.int .i64 0) ∧ w' = w := by
  go_enter Try.func16, Try.ntmps16
  go_wp2_with fail
  refine (none_any p _ h).mono ?_
  rintro e w' ⟨rfl, rfl⟩
  go_wp2
  go_ret
  exact ⟨rfl, rfl⟩
theorem none_taken (p : Option Addr) (w : World) (h : NoSup w p) : Calls Try.prog 11 #[.pointer p] w fun e w' => e = .returned (.int .i64 0) ∧ w' = w := by
  go_enter Try.func11, Try.ntmps11
  go_wp2_with fail
  refine (none_any p _ h).mono ?_
  rintro e w' ⟨rfl, rfl⟩
  go_wp2
  go_ret
  exact ⟨rfl, rfl⟩
end Go.Proofs.Ytkjfpaaiomioaaa
