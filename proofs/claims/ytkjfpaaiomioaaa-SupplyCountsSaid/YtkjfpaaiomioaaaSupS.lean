/- The examples of the law: shown returns true. -/
import Derived.Test.YtkjfpaaiomioaaaSupTM
import Derived.Test.YtkjfpaaiomioaaaSmall
namespace Go.Proofs.Ytkjfpaaiomioaaa
open Go.RowKit Go.Shelf

/-- The two bytes of the examples. -/
def twoBytes : ByteArray := ⟨#[165, 15]⟩
theorem ex1 : bitsR twoBytes 0 3 = (5, 0, 3) := by decide +kernel
theorem ex2 : belowR twoBytes 3 5 = (1, 0, 6) := by decide +kernel
theorem ex3 : belowR twoBytes 6 3 = (1, 0, 8) := by decide +kernel
theorem ex4 : bitsR twoBytes 8 9 = (0, 4, 8) := by decide +kernel
theorem ex5 : ternaryR twoBytes 0 4 2 = ([0, -1, -1, 0], 0, 6) := by decide +kernel
theorem size2 : twoBytes.size = 2 := by decide +kernel

theorem new_sup_at (s : ByteArray) (w : World) : SupAt (w.alloc (.cells #[.string s, .int .i64 0, .bool true] 53)) w.heap.size s 0 := heap_alloc_new w _

theorem shown1 (b : Nat) (w : World) (h : SupAt w b twoBytes 0) :
    Calls Try.prog 21 #[.pointer (some ⟨b, 0, none⟩), .int .i64 3] w fun e w' => e = .returned (.tuple #[.int .u64 5, .int .i64 0]) ∧ SupAt w' b twoBytes 3 ∧ Turn w w' [b] := by
  have H := bits_sup b twoBytes 0 3 w (by rw [size2]; decide) (Nat.zero_le _) h
  rw [ex1] at H
  exact H
theorem shown2 (b : Nat) (w : World) (h : SupAt w b twoBytes 3) :
    Calls Try.prog 10 #[.pointer (some ⟨b, 0, none⟩), .int .u64 5] w fun e w' => e = .returned (.tuple #[.int .u64 1, .int .i64 0]) ∧ SupAt w' b twoBytes 6 ∧ Turn w w' [b] := by
  have H := below_sup b twoBytes 3 5 w (by rw [size2]; decide) (by rw [size2]; decide) (by decide) h
  rw [ex2] at H
  exact H
theorem shown3 (b : Nat) (w : World) (h : SupAt w b twoBytes 6) :
    Calls Try.prog 10 #[.pointer (some ⟨b, 0, none⟩), .int .u64 3] w fun e w' => e = .returned (.tuple #[.int .u64 1, .int .i64 0]) ∧ SupAt w' b twoBytes 8 ∧ Turn w w' [b] := by
  have H := below_sup b twoBytes 6 3 w (by rw [size2]; decide) (by rw [size2]; decide) (by decide) h
  rw [ex3] at H
  exact H
theorem shown4 (b : Nat) (w : World) (h : SupAt w b twoBytes 8) :
    Calls Try.prog 21 #[.pointer (some ⟨b, 0, none⟩), .int .i64 9] w fun e w' => e = .returned (.tuple #[.int .u64 0, .int .i64 4]) ∧ SupAt w' b twoBytes 8 ∧ Turn w w' [b] := by
  have H := bits_sup b twoBytes 8 9 w (by rw [size2]; decide) (by rw [size2]; decide) h
  rw [ex4] at H
  exact H
theorem shown5 (b : Nat) (w : World) (h : SupAt w b twoBytes 0) :
    Calls Try.prog 12 #[.pointer (some ⟨b, 0, none⟩), .int .i64 4, .int .i64 2] w fun e w' => ∃ v, e = .returned (.tuple #[v, .int .i64 0]) ∧ w'.ownsRow 0 40 1 v 4 [.int .i8 0, .int .i8 (-1), .int .i8 (-1), .int .i8 0] ∧ (∀ k, v.ownBlock = some k → w.heap.size ≤ k) ∧ SupAt w' b twoBytes 6 ∧ Turn w w' [b] := by
  have H := ternary_sup b twoBytes 0 4 2 w (by rw [size2]; decide) (Nat.zero_le _) h
  rw [ex5] at H
  exact H
theorem left8 (b : Nat) (w : World) (h : SupAt w b twoBytes 8) :
    Calls Try.prog 16 #[.pointer (some ⟨b, 0, none⟩)] w fun e w' => e = .returned (.int .i64 8) ∧ ∃ k, w' = w.drewN k := by
  have H := left_sup b twoBytes 8 w (by rw [size2]; decide) (by rw [size2]; decide) h
  rw [size2] at H
  exact H
theorem taken8 (b : Nat) (w : World) (h : SupAt w b twoBytes 8) :
    Calls Try.prog 11 #[.pointer (some ⟨b, 0, none⟩)] w fun e w' => e = .returned (.int .i64 8) ∧ w' = w := taken_sup b twoBytes 8 w h
theorem taken6 (b : Nat) (w : World) (h : SupAt w b twoBytes 6) :
    Calls Try.prog 11 #[.pointer (some ⟨b, 0, none⟩)] w fun e w' => e = .returned (.int .i64 6) ∧ w' = w := taken_sup b twoBytes 6 w h
theorem newTwo (w : World) :
    Calls Try.prog 9 #[.string ⟨#[165, 15]⟩] w fun e w' => e = .returned (.pointer (some ⟨w.heap.size, 0, none⟩)) ∧ SupAt w' w.heap.size twoBytes 0 ∧ Turn w w' [] := by
  refine (new_sup twoBytes w (by rw [size2]; decide)).mono ?_
  rintro e w' ⟨rfl, rfl⟩
  exact ⟨rfl, new_sup_at _ _, (Turn.refl _ _).alloc _⟩

set_option maxRecDepth 100000 in
set_option maxHeartbeats 1000000 in
theorem shown_true (w : World) : Calls Try.prog 7 #[] w fun e w' => e = .returned (.bool true) ∧ Turn w w' [] := by
  go_enter Try.func7, Try.ntmps7
  go_wp2_with fail
  refine (newTwo _).mono ?_
  rintro e w1 ⟨rfl, hS1, hT1⟩
  go_wp2_with fail
  refine (shown1 _ _ hS1).mono ?_
  rintro e w2 ⟨rfl, hS2, hT2⟩
  go_wp2_with fail
  refine (shown2 _ _ hS2).mono ?_
  rintro e w3 ⟨rfl, hS3, hT3⟩
  go_wp2_with fail
  refine (shown3 _ _ hS3).mono ?_
  rintro e w4 ⟨rfl, hS4, hT4⟩
  go_wp2_with fail
  refine (shown4 _ _ hS4).mono ?_
  rintro e w5 ⟨rfl, hS5, hT5⟩
  have hb5 := hS5.lt
  go_wp2_with fail
  refine (newTwo _).mono ?_
  rintro e w6 ⟨rfl, hS6, hT6⟩
  go_wp2_with fail
  refine (shown5 _ _ hS6).mono ?_
  rintro e w7 ⟨v, rfl, hv, hB, hS7, hT7⟩
  have hS5' := (hS5.turn hT6 (by simp)).turn hT7 (by simp; omega)
  have HV := Lib.hid hv
  have HB := Lib.hid hB
  clear hv hB
  go_wp2_with fail
  refine (left8 _ _ hS5').mono ?_
  rintro e w8 ⟨rfl, k8, rfl⟩
  go_wp2_with fail
  refine (taken8 _ _ (hS5'.drewN k8)).mono ?_
  rintro e w9 ⟨rfl, rfl⟩
  have hb6 := hS7.lt
  go_wp2_with fail
  have hT8 := (((Turn.refl w7 []).drewN k8).alloc (.cells #[.int .i8 0, .int .i8 (-1), .int .i8 (-1), .int .i8 0] 40))
  refine (small_eq _ _ [0, -1, -1, 0] _ (by decide) (owns_turn HV.out hT8 (fun k _ => by simp)) (World.ownsRow_lit (w7.drewN k8) #[.int .i8 0, .int .i8 (-1), .int .i8 (-1), .int .i8 0] 4 (Nat.zero_le _) (by unfold maxLen; omega) rfl)).mono ?_
  rintro e w10 ⟨rfl, k10, rfl⟩
  go_wp2_with fail
  refine (taken6 _ _ ((hS7.turn hT8 (by simp)).drewN k10)).mono ?_
  rintro e w11 ⟨rfl, rfl⟩
  go_wp2
  go_ret
  refine ⟨rfl, ?_⟩
  have a5 := (((hT1.new hT2 (fun j hj => by simp at hj; exact .inl (by omega))).new hT3 (fun j hj => by simp at hj; exact .inl (by omega))).new hT4 (fun j hj => by simp at hj; exact .inl (by omega))).new hT5 (fun j hj => by simp at hj; exact .inl (by omega))
  have hsz := a5.size
  exact (((a5.new hT6 (fun j hj => by simp at hj)).new hT7 (fun j hj => by simp at hj; exact .inl (by omega))).new hT8 (fun j hj => by simp at hj)).drewN k10
end Go.Proofs.Ytkjfpaaiomioaaa
