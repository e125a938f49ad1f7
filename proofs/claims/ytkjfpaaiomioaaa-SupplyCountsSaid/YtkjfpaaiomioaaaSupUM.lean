/- The program's supply: the method Uniform, with its closure. -/
import Derived.Test.YtkjfpaaiomioaaaSupU
import Derived.Test.YtkjfpaaiomioaaaSupL
namespace Go.Proofs.Ytkjfpaaiomioaaa
open Go.RowKit Go.Shelf

/-- The world in which Uniform calls 'taking'. -/
def uniformWorld (w : World) (b q n : Nat) : World := ((((w.alloc (.cells #[.pointer (some ⟨b, 0, none⟩)] 25)).alloc (.cells #[.int .u32 q] 39)).alloc (.cells (zeroRow .u32 n) 39)).alloc (.cells #[.slice (some ⟨w.heap.size + 1 + 1, 0, none⟩) n n] 56))
theorem takeUniform_yes (b : Nat) (s : ByteArray) (c n q d : Nat) (l : List Nat) (w : World) (hs : s.size ≤ 1048576) (hc : c ≤ 8 * s.size) (hn : n ≤ 4096) (hq : 1 ≤ q) (hq2 : q ≤ 4294967295) (hS : SupAt w b s c) (hL : takeL s q n c = some (l, d)) :
    Calls Try.prog 25 #[.pointer (some ⟨b, 0, none⟩), .func (.func 38) #[] #[.pointer (some ⟨w.heap.size + 1 + 1 + 1, 0, none⟩), .pointer (some ⟨w.heap.size, 0, none⟩), .pointer (some ⟨w.heap.size + 1, 0, none⟩)]] (uniformWorld w b q n)
      fun e w' => e = .returned (.int .i64 0) ∧ SupAt w' b s d ∧ (IntRow w' (w.heap.size + 1 + 1) 39 .u32 (l.map (fun v : Nat => (v : Int))) ∧ w'.heap[w.heap.size + 1 + 1 + 1]? = some (.cells #[.slice (some ⟨w.heap.size + 1 + 1, 0, none⟩) n n] 56 (0, 0))) ∧ Turn w w' [b] := by
  have hb := hS.lt
  obtain ⟨z0, z1, z2, z3, z4⟩ := four_at w (.cells #[.pointer (some ⟨b, 0, none⟩)] 25) (.cells #[.int .u32 q] 39) (.cells (zeroRow .u32 n) 39) (.cells #[.slice (some ⟨w.heap.size + 1 + 1, 0, none⟩) n n] 56)
  have hS3 : SupAt (uniformWorld w b q n) b s c := (((hS.alloc _).alloc _).alloc _).alloc _
  have hT : ∀ k, k ∈ [b, w.heap.size + 1 + 1] → k < (uniformWorld w b q n).heap.size := by intro k hk; simp at hk; unfold uniformWorld; rw [z0]; omega
  refine (take_yes 38 _ enters_uniformC b s c d (uniformWorld w b q n) hS3 [b, w.heap.size + 1 + 1] hT (fun w2 => IntRow w2 (w.heap.size + 1 + 1) 39 .u32 (l.map (fun v : Nat => (v : Int))) ∧ w2.heap[w.heap.size + 1 + 1 + 1]? = some (.cells #[.slice (some ⟨w.heap.size + 1 + 1, 0, none⟩) n n] 56 (0, 0))) ?_ ?_).mono ?_
  · rintro w2 p u ⟨h1, h3⟩ h2
    unfold uniformWorld at h2; rw [z0] at h2
    exact ⟨h1.other (by omega) u, (heap_other _ _ _ _ (by omega)).trans h3⟩
  · have ht := turn_takeWorld (uniformWorld w b q n) b c []
    have H := uniformC_any b (w.heap.size + 1 + 1 + 1) w.heap.size (w.heap.size + 1) (w.heap.size + 1 + 1) s c n q _ hs hc hq hq2 hn (hS3.turn ht (by simp)) (cell_of_one (ht.at z4 (by simp))) (cell_of_one (ht.at z1 (by simp))) (cell_of_one (ht.at z2 (by simp))) (zeroRow_is (ht.at z3 (by simp)))
      (by omega) (by omega) (by omega) (by omega) (by omega) (by omega) (by omega)
    rw [hL] at H
    refine H.mono ?_
    rintro e w2 ⟨rfl, h1, h2, h3⟩
    exact ⟨rfl, h1, ⟨h2, h3.at (ht.at z4 (by simp)) (by simp; omega)⟩, h3⟩
  · rintro e w' ⟨rfl, h1, h2, h3⟩
    exact ⟨rfl, h1, h2, (((((Turn.refl w [b]).alloc _).alloc _).alloc _).alloc _).new h3 (fun j hj => by simp at hj; rcases hj with rfl | rfl; exact .inr (by simp); exact .inl (by omega))⟩
theorem takeUniform_no (b : Nat) (s : ByteArray) (c n q : Nat) (w : World) (hs : s.size ≤ 1048576) (hc : c ≤ 8 * s.size) (hn : n ≤ 4096) (hq : 1 ≤ q) (hq2 : q ≤ 4294967295) (hS : SupAt w b s c) (hL : takeL s q n c = none) :
    Calls Try.prog 25 #[.pointer (some ⟨b, 0, none⟩), .func (.func 38) #[] #[.pointer (some ⟨w.heap.size + 1 + 1 + 1, 0, none⟩), .pointer (some ⟨w.heap.size, 0, none⟩), .pointer (some ⟨w.heap.size + 1, 0, none⟩)]] (uniformWorld w b q n)
      fun e w' => e = .returned (.int .i64 4) ∧ SupAt w' b s c ∧ Turn w w' [b] := by
  have hb := hS.lt
  obtain ⟨z0, z1, z2, z3, z4⟩ := four_at w (.cells #[.pointer (some ⟨b, 0, none⟩)] 25) (.cells #[.int .u32 q] 39) (.cells (zeroRow .u32 n) 39) (.cells #[.slice (some ⟨w.heap.size + 1 + 1, 0, none⟩) n n] 56)
  have hS3 : SupAt (uniformWorld w b q n) b s c := (((hS.alloc _).alloc _).alloc _).alloc _
  have hT : ∀ k, k ∈ [b, w.heap.size + 1 + 1] → k < (uniformWorld w b q n).heap.size := by intro k hk; simp at hk; unfold uniformWorld; rw [z0]; omega
  refine (take_no 38 _ enters_uniformC b s c (uniformWorld w b q n) hS3 [b, w.heap.size + 1 + 1] hT (by simp) ?_).mono ?_
  · have ht := turn_takeWorld (uniformWorld w b q n) b c []
    have H := uniformC_any b (w.heap.size + 1 + 1 + 1) w.heap.size (w.heap.size + 1) (w.heap.size + 1 + 1) s c n q _ hs hc hq hq2 hn (hS3.turn ht (by simp)) (cell_of_one (ht.at z4 (by simp))) (cell_of_one (ht.at z1 (by simp))) (cell_of_one (ht.at z2 (by simp))) (zeroRow_is (ht.at z3 (by simp)))
      (by omega) (by omega) (by omega) (by omega) (by omega) (by omega) (by omega)
    rw [hL] at H
    exact H
  · rintro e w' ⟨rfl, h1, h3⟩
    exact ⟨rfl, h1, (((((Turn.refl w [b]).alloc _).alloc _).alloc _).alloc _).new h3 (fun j hj => by simp at hj; rcases hj with rfl | rfl; exact .inr (by simp); exact .inl (by omega))⟩

set_option maxHeartbeats 1000000 in
theorem uniform_sup (b : Nat) (s : ByteArray) (c q : Nat) (n : Int) (w : World) (hs : s.size ≤ 1048576) (hc : c ≤ 8 * s.size) (hq : q ≤ 4294967295) (hS : SupAt w b s c) :
    Calls Try.prog 22 #[.pointer (some ⟨b, 0, none⟩), .int .i64 n, .int .u32 q] w (ListPost w b s 39 .u32 (uniformR s c n q)) := by
  have hmf := hmf
  have hb := hS.lt
  obtain ⟨r, hr⟩ : ∃ r, uniformR s c n q = r := ⟨_, rfl⟩
  rw [hr]
  have HR := Lib.hid hr
  clear hr
  by_cases h1 : n < 0 ∨ 4096 < n ∨ q < 1
  · have e : r = ([], 2, c) := by rw [← HR.out, uniformR, if_pos h1]
    subst e
    rcases h1 with h1 | h1 | h1
    · go_enter Try.func22, Try.ntmps22
      go_wp2_with fail
      refine (none_sup b s c _ ((hS.alloc _).alloc _)).mono ?_
      rintro e w' ⟨rfl, rfl⟩
      go_wp2
      go_ret2
      exact listPost_nil ((hS.alloc _).alloc _) (((Turn.refl _ _).alloc _).alloc _)
    · have h2 : ¬ n < 0 := by omega
      go_enter Try.func22, Try.ntmps22
      go_wp2_with fail
      refine (none_sup b s c _ ((hS.alloc _).alloc _)).mono ?_
      rintro e w' ⟨rfl, rfl⟩
      go_wp2
      go_ret2
      exact listPost_nil ((hS.alloc _).alloc _) (((Turn.refl _ _).alloc _).alloc _)
    · by_cases h2 : n < 0
      · go_enter Try.func22, Try.ntmps22
        go_wp2_with fail
        refine (none_sup b s c _ ((hS.alloc _).alloc _)).mono ?_
        rintro e w' ⟨rfl, rfl⟩
        go_wp2
        go_ret2
        exact listPost_nil ((hS.alloc _).alloc _) (((Turn.refl _ _).alloc _).alloc _)
      by_cases h3 : 4096 < n
      · go_enter Try.func22, Try.ntmps22
        go_wp2_with fail
        refine (none_sup b s c _ ((hS.alloc _).alloc _)).mono ?_
        rintro e w' ⟨rfl, rfl⟩
        go_wp2
        go_ret2
        exact listPost_nil ((hS.alloc _).alloc _) (((Turn.refl _ _).alloc _).alloc _)
      · go_enter Try.func22, Try.ntmps22
        go_wp2_with fail
        refine (none_sup b s c _ ((hS.alloc _).alloc _)).mono ?_
        rintro e w' ⟨rfl, rfl⟩
        go_wp2
        go_ret2
        exact listPost_nil ((hS.alloc _).alloc _) (((Turn.refl _ _).alloc _).alloc _)
  · have e : r = uniformR s c n q := HR.out.symm
    rw [uniformR, if_neg h1] at e
    have h2 : ¬ n < 0 := by omega
    have h3 : ¬ 4096 < n := by omega
    have h4 : ¬ q < 1 := by omega
    clear h1
    obtain ⟨k, rfl⟩ := Int.eq_ofNat_of_zero_le (show 0 ≤ n by omega)
    rw [Int.toNat_natCast] at e
    have HE := Lib.hid e
    clear e
    have hmk := mk_u32 k (by omega)
    go_enter Try.func22, Try.ntmps22
    go_wp2_with fail
    refine (none_sup b s c _ ((hS.alloc _).alloc _)).mono ?_
    rintro e w' ⟨rfl, rfl⟩
    go_wp2_with fail
    rcases hL : takeL s q k c with _ | ⟨l, d⟩
    · refine (takeUniform_no b s c k q w hs hc (by omega) (by omega) hq hS hL).mono ?_
      rintro e w' ⟨rfl, h1, h2⟩
      have HL := Lib.hid hL
      clear hL
      go_wp2
      go_ret2
      have e : r = ([], 4, c) := by rw [HE.out, HL.out]
      subst e
      exact listPost_nil h1 h2
    · refine (takeUniform_yes b s c k q d l w hs hc (by omega) (by omega) hq hS hL).mono ?_
      rintro e w' ⟨rfl, h1, ⟨h2, h5⟩, h6⟩
      have hlen := takeL_spec1 hc hL
      have hcell := cell_of_one h5
      have HL := Lib.hid hL
      have Hlen := Lib.hid hlen
      clear h5 hL hlen
      go_wp2
      go_ret2
      have e : r = (l.map (fun v : Nat => (v : Int)), 0, d) := by rw [HE.out, HL.out]
      subst e
      exact listPost_row h2 (by rw [List.length_map]; exact Hlen.out) (by omega) (by omega) h1 h6
end Go.Proofs.Ytkjfpaaiomioaaa
