/- The program's supply: the method Bounded, with its closure. -/
import Derived.Test.YtkjfpaaiomioaaaSupU
import Derived.Test.YtkjfpaaiomioaaaSupL
namespace Go.Proofs.Ytkjfpaaiomioaaa
open Go.RowKit Go.Shelf

theorem enters_boundedC : ∀ args w, (callFunc 30 args).run Try.prog w = .ok (.enter 30 args) w := enters_of Try.func30 (by kernel_rfl) rfl

set_option maxHeartbeats 1000000 in
theorem boundedC_any (b o p q g : Nat) (s : ByteArray) (c n m : Nat) (w : World) (hs : s.size ≤ 1048576) (hc : c ≤ 8 * s.size) (hm : m ≤ 2147483647) (hn : n ≤ 4096) (hS : SupAt w b s c)
    (ho : w.cell? ⟨o, 0, none⟩ = some (.slice (some ⟨g, 0, none⟩) n n)) (hp : w.cell? ⟨p, 0, none⟩ = some (.pointer (some ⟨b, 0, none⟩))) (hq : w.cell? ⟨q, 0, none⟩ = some (.int .u32 m)) (hg : IntRow w g 2 .i64 (List.replicate n 0))
    (n1 : o ≠ b) (n2 : o ≠ g) (n3 : p ≠ b) (n4 : p ≠ g) (n5 : q ≠ b) (n6 : q ≠ g) (n7 : g ≠ b) :
    Calls Try.prog 30 #[.pointer (some ⟨o, 0, none⟩), .pointer (some ⟨p, 0, none⟩), .pointer (some ⟨q, 0, none⟩)] w (FillPost w b g s 2 .i64 (fun v : Nat => (v : Int) - (m : Int)) (takeL s (2 * m + 1) n c)) := by
  obtain ⟨r, hr⟩ : ∃ r, takeL s (2 * m + 1) n c = r := ⟨_, rfl⟩
  rw [hr]
  have HR := Lib.hid hr
  clear hr
  go_enter Try.func30, Try.ntmps30
  go_wp2
  go_loopw [9] (fun i wr => ∃ (k d : Nat) (l : List Nat), k ≤ n ∧ i = .int .i64 k ∧ d ≤ 8 * s.size ∧ Hid (takeL s (2 * m + 1) k c = some (l, d)) ∧ SupAt wr b s d ∧ IntRow wr g 2 .i64 (l.map (fun v : Nat => (v : Int) - (m : Int)) ++ List.replicate (n - k) 0) ∧ Turn w wr [b, g]) (fun i _ => n - (intOf i).toNat)
  case atStart => exact ⟨0, c, [], Nat.zero_le _, rfl, hc, Lib.hid rfl, hS, hg, Turn.refl _ _⟩
  case round =>
    obtain ⟨k, d, l, hk, rfl, hd, HT, hSr, hgr, hT⟩ := hrel
    have go := hT.cell ho (by simp [n1, n2])
    have gp := hT.cell hp (by simp [n3, n4])
    have gq := hT.cell hq (by simp [n5, n6])
    by_cases hlt : k < n
    · rcases hb : belowL s (2 * m + 1) d with _ | ⟨v, d'⟩
      · have H := below_any b s d (2 * m + 1) wr hs hd (by omega) (by omega) hSr
        rw [hb] at H
        have HB := Lib.hid hb
        have HH := Lib.hid H
        clear hb H
        go_wp2_with fail
        refine HH.out.mono ?_
        rintro e w1 ⟨rfl, ⟨d2, hd2, hS1⟩, hg1⟩
        go_wp2
        go_ret
        have hn := takeL_none (takeL_stop HT.out HB.out) n (by omega)
        rw [← HR.out, hn]
        exact ⟨rfl, ⟨d2, hS1⟩, hT.trans (Turn.of_grown hg1 (by simp))⟩
      · have H := below_any b s d (2 * m + 1) wr hs hd (by omega) (by omega) hSr
        rw [hb] at H
        have hbs := belowL_spec hb
        have hv : v ≤ 4294967295 := by omega
        have HB := Lib.hid hb
        have HH := Lib.hid H
        clear hb H
        go_wp2_with fail
        refine HH.out.mono ?_
        rintro e w1 ⟨rfl, hS1, hg1⟩
        have hT1 := Turn.of_grown hg1 (S := [b]) (by simp)
        have hT2 := hT.trans (Turn.of_grown hg1 (S := [b, g]) (by simp))
        have go1 := hT2.cell ho (by simp [n1, n2])
        have gq1 := hT2.cell hq (by simp [n5, n6])
        have hgr1 := hgr.turn hT1 (by simpa using n7)
        have hl := takeL_spec1 hc HT.out
        have hcell := hgr1.cell k (by simp [hl]; omega)
        have hfree := hgr1.free k
        have HL := Lib.hid hl
        clear hl
        go_wp2
        go_roundw
        case rel =>
          refine ⟨k + 1, d', l ++ [v], by omega, by go_num, hbs.2.2, Lib.hid (takeL_more HT.out HB.out), hS1.other n7.symm _, ?_, hT2.setCell (.inl (by simp)) _⟩
          have hset := hgr1.set k ((v : Int) - (m : Int))
          have e1 := fill_set (l.map (fun v : Nat => (v : Int) - (m : Int))) ((v : Int) - (m : Int)) 0 n (by simp [HL.out]; omega)
          rw [List.length_map, HL.out] at e1
          rw [e1] at hset
          rw [List.map_append]
          exact hset
        case measure => simp [intOf]; omega
    · go_wp2
      go_ret
      obtain rfl : k = n := by omega
      rw [← HR.out, HT.out]
      rw [Nat.sub_self, List.replicate_zero, List.append_nil] at hgr
      exact ⟨rfl, hSr, hgr, hT⟩

/-- The world in which Bounded calls 'taking'. -/
def boundedWorld (w : World) (b q n : Nat) : World := ((((w.alloc (.cells #[.pointer (some ⟨b, 0, none⟩)] 25)).alloc (.cells #[.int .u32 q] 39)).alloc (.cells (zeroRow .i64 n) 2)).alloc (.cells #[.slice (some ⟨w.heap.size + 1 + 1, 0, none⟩) n n] 36))
theorem takeBounded_yes (b : Nat) (s : ByteArray) (c n q d : Nat) (l : List Nat) (w : World) (hs : s.size ≤ 1048576) (hc : c ≤ 8 * s.size) (hn : n ≤ 4096) (hq : q ≤ 2147483647) (hS : SupAt w b s c) (hL : takeL s (2 * q + 1) n c = some (l, d)) :
    Calls Try.prog 25 #[.pointer (some ⟨b, 0, none⟩), .func (.func 30) #[] #[.pointer (some ⟨w.heap.size + 1 + 1 + 1, 0, none⟩), .pointer (some ⟨w.heap.size, 0, none⟩), .pointer (some ⟨w.heap.size + 1, 0, none⟩)]] (boundedWorld w b q n)
      fun e w' => e = .returned (.int .i64 0) ∧ SupAt w' b s d ∧ (IntRow w' (w.heap.size + 1 + 1) 2 .i64 (l.map (fun v : Nat => (v : Int) - (q : Int))) ∧ w'.heap[w.heap.size + 1 + 1 + 1]? = some (.cells #[.slice (some ⟨w.heap.size + 1 + 1, 0, none⟩) n n] 36 (0, 0))) ∧ Turn w w' [b] := by
  have hb := hS.lt
  obtain ⟨z0, z1, z2, z3, z4⟩ := four_at w (.cells #[.pointer (some ⟨b, 0, none⟩)] 25) (.cells #[.int .u32 q] 39) (.cells (zeroRow .i64 n) 2) (.cells #[.slice (some ⟨w.heap.size + 1 + 1, 0, none⟩) n n] 36)
  have hS3 : SupAt (boundedWorld w b q n) b s c := (((hS.alloc _).alloc _).alloc _).alloc _
  have hT : ∀ k, k ∈ [b, w.heap.size + 1 + 1] → k < (boundedWorld w b q n).heap.size := by intro k hk; simp at hk; unfold boundedWorld; rw [z0]; omega
  refine (take_yes 30 _ enters_boundedC b s c d (boundedWorld w b q n) hS3 [b, w.heap.size + 1 + 1] hT (fun w2 => IntRow w2 (w.heap.size + 1 + 1) 2 .i64 (l.map (fun v : Nat => (v : Int) - (q : Int))) ∧ w2.heap[w.heap.size + 1 + 1 + 1]? = some (.cells #[.slice (some ⟨w.heap.size + 1 + 1, 0, none⟩) n n] 36 (0, 0))) ?_ ?_).mono ?_
  · rintro w2 p u ⟨h1, h3⟩ h2
    unfold boundedWorld at h2; rw [z0] at h2
    exact ⟨h1.other (by omega) u, (heap_other _ _ _ _ (by omega)).trans h3⟩
  · have ht := turn_takeWorld (boundedWorld w b q n) b c []
    have H := boundedC_any b (w.heap.size + 1 + 1 + 1) w.heap.size (w.heap.size + 1) (w.heap.size + 1 + 1) s c n q _ hs hc hq hn (hS3.turn ht (by simp)) (cell_of_one (ht.at z4 (by simp))) (cell_of_one (ht.at z1 (by simp))) (cell_of_one (ht.at z2 (by simp))) (zeroRow_is (ht.at z3 (by simp)))
      (by omega) (by omega) (by omega) (by omega) (by omega) (by omega) (by omega)
    rw [hL] at H
    refine H.mono ?_
    rintro e w2 ⟨rfl, h1, h2, h3⟩
    exact ⟨rfl, h1, ⟨h2, h3.at (ht.at z4 (by simp)) (by simp; omega)⟩, h3⟩
  · rintro e w' ⟨rfl, h1, h2, h3⟩
    exact ⟨rfl, h1, h2, (((((Turn.refl w [b]).alloc _).alloc _).alloc _).alloc _).new h3 (fun j hj => by simp at hj; rcases hj with rfl | rfl; exact .inr (by simp); exact .inl (by omega))⟩
theorem takeBounded_no (b : Nat) (s : ByteArray) (c n q : Nat) (w : World) (hs : s.size ≤ 1048576) (hc : c ≤ 8 * s.size) (hn : n ≤ 4096) (hq : q ≤ 2147483647) (hS : SupAt w b s c) (hL : takeL s (2 * q + 1) n c = none) :
    Calls Try.prog 25 #[.pointer (some ⟨b, 0, none⟩), .func (.func 30) #[] #[.pointer (some ⟨w.heap.size + 1 + 1 + 1, 0, none⟩), .pointer (some ⟨w.heap.size, 0, none⟩), .pointer (some ⟨w.heap.size + 1, 0, none⟩)]] (boundedWorld w b q n)
      fun e w' => e = .returned (.int .i64 4) ∧ SupAt w' b s c ∧ Turn w w' [b] := by
  have hb := hS.lt
  obtain ⟨z0, z1, z2, z3, z4⟩ := four_at w (.cells #[.pointer (some ⟨b, 0, none⟩)] 25) (.cells #[.int .u32 q] 39) (.cells (zeroRow .i64 n) 2) (.cells #[.slice (some ⟨w.heap.size + 1 + 1, 0, none⟩) n n] 36)
  have hS3 : SupAt (boundedWorld w b q n) b s c := (((hS.alloc _).alloc _).alloc _).alloc _
  have hT : ∀ k, k ∈ [b, w.heap.size + 1 + 1] → k < (boundedWorld w b q n).heap.size := by intro k hk; simp at hk; unfold boundedWorld; rw [z0]; omega
  refine (take_no 30 _ enters_boundedC b s c (boundedWorld w b q n) hS3 [b, w.heap.size + 1 + 1] hT (by simp) ?_).mono ?_
  · have ht := turn_takeWorld (boundedWorld w b q n) b c []
    have H := boundedC_any b (w.heap.size + 1 + 1 + 1) w.heap.size (w.heap.size + 1) (w.heap.size + 1 + 1) s c n q _ hs hc hq hn (hS3.turn ht (by simp)) (cell_of_one (ht.at z4 (by simp))) (cell_of_one (ht.at z1 (by simp))) (cell_of_one (ht.at z2 (by simp))) (zeroRow_is (ht.at z3 (by simp)))
      (by omega) (by omega) (by omega) (by omega) (by omega) (by omega) (by omega)
    rw [hL] at H
    exact H
  · rintro e w' ⟨rfl, h1, h3⟩
    exact ⟨rfl, h1, (((((Turn.refl w [b]).alloc _).alloc _).alloc _).alloc _).new h3 (fun j hj => by simp at hj; rcases hj with rfl | rfl; exact .inr (by simp); exact .inl (by omega))⟩

set_option maxHeartbeats 1000000 in
theorem bounded_sup (b : Nat) (s : ByteArray) (c q : Nat) (n : Int) (w : World) (hs : s.size ≤ 1048576) (hc : c ≤ 8 * s.size) (hq : q ≤ 4294967295) (hS : SupAt w b s c) :
    Calls Try.prog 13 #[.pointer (some ⟨b, 0, none⟩), .int .i64 n, .int .u32 q] w (ListPost w b s 2 .i64 (boundedR s c n q)) := by
  have hmf := hmf
  have hb := hS.lt
  obtain ⟨r, hr⟩ : ∃ r, boundedR s c n q = r := ⟨_, rfl⟩
  rw [hr]
  have HR := Lib.hid hr
  clear hr
  by_cases h1 : n < 0 ∨ 4096 < n ∨ 2147483647 < q
  · have e : r = ([], 2, c) := by rw [← HR.out, boundedR, if_pos h1]
    subst e
    rcases h1 with h1 | h1 | h1
    · go_enter Try.func13, Try.ntmps13
      go_wp2_with fail
      refine (none_sup b s c _ ((hS.alloc _).alloc _)).mono ?_
      rintro e w' ⟨rfl, rfl⟩
      go_wp2
      go_ret2
      exact listPost_nil ((hS.alloc _).alloc _) (((Turn.refl _ _).alloc _).alloc _)
    · have h2 : ¬ n < 0 := by omega
      go_enter Try.func13, Try.ntmps13
      go_wp2_with fail
      refine (none_sup b s c _ ((hS.alloc _).alloc _)).mono ?_
      rintro e w' ⟨rfl, rfl⟩
      go_wp2
      go_ret2
      exact listPost_nil ((hS.alloc _).alloc _) (((Turn.refl _ _).alloc _).alloc _)
    · by_cases h2 : n < 0
      · go_enter Try.func13, Try.ntmps13
        go_wp2_with fail
        refine (none_sup b s c _ ((hS.alloc _).alloc _)).mono ?_
        rintro e w' ⟨rfl, rfl⟩
        go_wp2
        go_ret2
        exact listPost_nil ((hS.alloc _).alloc _) (((Turn.refl _ _).alloc _).alloc _)
      by_cases h3 : 4096 < n
      · go_enter Try.func13, Try.ntmps13
        go_wp2_with fail
        refine (none_sup b s c _ ((hS.alloc _).alloc _)).mono ?_
        rintro e w' ⟨rfl, rfl⟩
        go_wp2
        go_ret2
        exact listPost_nil ((hS.alloc _).alloc _) (((Turn.refl _ _).alloc _).alloc _)
      · go_enter Try.func13, Try.ntmps13
        go_wp2_with fail
        refine (none_sup b s c _ ((hS.alloc _).alloc _)).mono ?_
        rintro e w' ⟨rfl, rfl⟩
        go_wp2
        go_ret2
        exact listPost_nil ((hS.alloc _).alloc _) (((Turn.refl _ _).alloc _).alloc _)
  · have e : r = boundedR s c n q := HR.out.symm
    rw [boundedR, if_neg h1] at e
    have h2 : ¬ n < 0 := by omega
    have h3 : ¬ 4096 < n := by omega
    have h4 : ¬ 2147483647 < q := by omega
    clear h1
    obtain ⟨k, rfl⟩ := Int.eq_ofNat_of_zero_le (show 0 ≤ n by omega)
    rw [Int.toNat_natCast] at e
    have HE := Lib.hid e
    clear e
    have hmk := mk_i64 k (by omega)
    go_enter Try.func13, Try.ntmps13
    go_wp2_with fail
    refine (none_sup b s c _ ((hS.alloc _).alloc _)).mono ?_
    rintro e w' ⟨rfl, rfl⟩
    go_wp2_with fail
    rcases hL : takeL s (2 * q + 1) k c with _ | ⟨l, d⟩
    · refine (takeBounded_no b s c k q w hs hc (by omega) (by omega) hS hL).mono ?_
      rintro e w' ⟨rfl, h1, h2⟩
      have HL := Lib.hid hL
      clear hL
      go_wp2
      go_ret2
      have e : r = ([], 4, c) := by rw [HE.out, HL.out]
      subst e
      exact listPost_nil h1 h2
    · refine (takeBounded_yes b s c k q d l w hs hc (by omega) (by omega) hS hL).mono ?_
      rintro e w' ⟨rfl, h1, ⟨h2, h5⟩, h6⟩
      have hlen := takeL_spec1 hc hL
      have hcell := cell_of_one h5
      have HL := Lib.hid hL
      have Hlen := Lib.hid hlen
      clear h5 hL hlen
      go_wp2
      go_ret2
      have e : r = (l.map (fun v : Nat => (v : Int) - (q : Int)), 0, d) := by rw [HE.out, HL.out]
      subst e
      exact listPost_row h2 (by rw [List.length_map]; exact Hlen.out) (by omega) (by omega) h1 h6
end Go.Proofs.Ytkjfpaaiomioaaa
