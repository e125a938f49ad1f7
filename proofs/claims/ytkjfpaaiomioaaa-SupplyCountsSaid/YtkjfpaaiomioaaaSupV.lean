/- The program's supply: taking with a closure that fills some blocks; the methods New, Bits and Below. -/
import Derived.Test.YtkjfpaaiomioaaaSupC
namespace Go.Proofs.Ytkjfpaaiomioaaa
open Go.RowKit Go.Shelf

theorem turn_takeWorld (W : World) (b c : Nat) (S : List Nat) : Turn W (takeWorld W b c) S := ((((Turn.refl W S).alloc _).alloc _).alloc _)

theorem take_yes (fn : FuncId) (caps : Array Value) (henter : ∀ args w, (callFunc fn args).run Try.prog w = .ok (.enter fn args) w) (b : Nat) (s : ByteArray) (c d : Nat) (W : World) (hS : SupAt W b s c) (T : List Nat) (hT : ∀ k, k ∈ T → k < W.heap.size)
    (P : World → Prop) (hP : ∀ w2 p u, P w2 → W.heap.size ≤ p.block → P (w2.setCell p u))
    (hcall : Calls Try.prog fn caps (takeWorld W b c) fun e w2 => e = .returned (.bool true) ∧ (SupAt w2 b s d ∧ P w2 ∧ Turn (takeWorld W b c) w2 T)) :
    Calls Try.prog 25 #[.pointer (some ⟨b, 0, none⟩), .func (.func fn) #[] caps] W fun e w' => e = .returned (.int .i64 0) ∧ SupAt w' b s d ∧ P w' ∧ Turn W w' T := by
  refine (taking_ok fn caps henter b s c W hS (fun w2 => SupAt w2 b s d ∧ P w2 ∧ Turn (takeWorld W b c) w2 T) hcall ?_).mono ?_
  · rintro w2 ⟨_, _, h⟩ k h1 h2
    exact h.block k (by rw [takeWorld_size]; exact h2) (fun hk => by have := hT k hk; omega)
  · rintro e w' ⟨rfl, w2, ⟨h1, h2, h3⟩, rfl⟩
    exact ⟨rfl, h1.other (by have := hS.lt; simp; omega) _, hP _ _ _ h2 (by simp), ((turn_takeWorld W b c T).new h3 (fun j hj => .inr hj)).setCell (.inr (by simp)) _⟩

theorem take_no (fn : FuncId) (caps : Array Value) (henter : ∀ args w, (callFunc fn args).run Try.prog w = .ok (.enter fn args) w) (b : Nat) (s : ByteArray) (c : Nat) (W : World) (hS : SupAt W b s c) (T : List Nat) (hT : ∀ k, k ∈ T → k < W.heap.size) (hb : b ∈ T)
    (hcall : Calls Try.prog fn caps (takeWorld W b c) fun e w2 => e = .returned (.bool false) ∧ ((∃ d, SupAt w2 b s d) ∧ Turn (takeWorld W b c) w2 T)) :
    Calls Try.prog 25 #[.pointer (some ⟨b, 0, none⟩), .func (.func fn) #[] caps] W fun e w' => e = .returned (.int .i64 4) ∧ SupAt w' b s c ∧ Turn W w' T := by
  refine (taking_no fn caps henter b s c W hS (fun w2 => (∃ d, SupAt w2 b s d) ∧ Turn (takeWorld W b c) w2 T) hcall ?_ (fun w2 h => h.1)).mono ?_
  · rintro w2 ⟨_, h⟩ k h1 h2
    exact h.block k (by rw [takeWorld_size]; exact h2) (fun hk => by have := hT k hk; omega)
  · rintro e w' ⟨rfl, w2, ⟨⟨d, h1⟩, h3⟩, rfl⟩
    exact ⟨rfl, (h1.other (by have := hS.lt; simp; omega) _).set c, (((turn_takeWorld W b c T).new h3 (fun j hj => .inr hj)).setCell (.inr (by simp)) _).setCell (.inl hb) _⟩

theorem three_at (w : World) (o1 o2 o3 : Obj) : (((w.alloc o1).alloc o2).alloc o3).heap.size = w.heap.size + 3 ∧ (((w.alloc o1).alloc o2).alloc o3).heap[w.heap.size]? = some o1 ∧
    (((w.alloc o1).alloc o2).alloc o3).heap[w.heap.size + 1]? = some o2 ∧ (((w.alloc o1).alloc o2).alloc o3).heap[w.heap.size + 1 + 1]? = some o3 := by
  have e2 := heap_alloc_new (w.alloc o1) o2
  have e3 := heap_alloc_new ((w.alloc o1).alloc o2) o3
  simp only [World.size_alloc] at e2 e3
  refine ⟨by simp, ?_, ?_, e3⟩
  · rw [heap_past _ _ _ (by simp; omega), heap_past _ _ _ (by simp)]; exact heap_alloc_new w o1
  · rw [heap_past _ _ _ (by simp)]; exact e2
theorem four_at (w : World) (o1 o2 o3 o4 : Obj) : ((((w.alloc o1).alloc o2).alloc o3).alloc o4).heap.size = w.heap.size + 4 ∧ ((((w.alloc o1).alloc o2).alloc o3).alloc o4).heap[w.heap.size]? = some o1 ∧
    ((((w.alloc o1).alloc o2).alloc o3).alloc o4).heap[w.heap.size + 1]? = some o2 ∧ ((((w.alloc o1).alloc o2).alloc o3).alloc o4).heap[w.heap.size + 1 + 1]? = some o3 ∧ ((((w.alloc o1).alloc o2).alloc o3).alloc o4).heap[w.heap.size + 1 + 1 + 1]? = some o4 := by
  obtain ⟨h1, h2, h3, h4⟩ := three_at w o1 o2 o3
  have e4 := heap_alloc_new (((w.alloc o1).alloc o2).alloc o3) o4
  rw [h1] at e4
  refine ⟨by simp, ?_, ?_, ?_, e4⟩
  · rw [heap_past _ _ _ (by rw [h1]; omega)]; exact h2
  · rw [heap_past _ _ _ (by rw [h1]; omega)]; exact h3
  · rw [heap_past _ _ _ (by rw [h1]; omega)]; exact h4

/-- The world in which Below calls 'taking'. -/
def belowWorld (w : World) (b n : Nat) : World := (((w.alloc (.cells #[.pointer (some ⟨b, 0, none⟩)] 25)).alloc (.cells #[.int .u64 n] 28)).alloc (.cells #[.int .u64 0] 28))
theorem takeBelow_yes (b : Nat) (s : ByteArray) (c n v d : Nat) (w : World) (hs : s.size ≤ 1048576) (hc : c ≤ 8 * s.size) (hn : 1 ≤ n) (hn2 : n ≤ 18446744073709551615) (hS : SupAt w b s c) (hL : belowL s n c = some (v, d)) :
    Calls Try.prog 25 #[.pointer (some ⟨b, 0, none⟩), .func (.func 26) #[] #[.pointer (some ⟨w.heap.size, 0, none⟩), .pointer (some ⟨w.heap.size + 1, 0, none⟩), .pointer (some ⟨w.heap.size + 1 + 1, 0, none⟩)]] (belowWorld w b n)
      fun e w' => e = .returned (.int .i64 0) ∧ SupAt w' b s d ∧ w'.heap[w.heap.size + 1 + 1]? = some (.cells #[.int .u64 v] 28 (0, 0)) ∧ Turn w w' [b] := by
  have hb := hS.lt
  obtain ⟨z0, z1, z2, z3⟩ := three_at w (.cells #[.pointer (some ⟨b, 0, none⟩)] 25) (.cells #[.int .u64 n] 28) (.cells #[.int .u64 0] 28)
  have hS3 : SupAt (belowWorld w b n) b s c := ((hS.alloc _).alloc _).alloc _
  have hT : ∀ k, k ∈ [b, w.heap.size + 1 + 1] → k < (belowWorld w b n).heap.size := by intro k hk; simp at hk; unfold belowWorld; rw [z0]; omega
  refine (take_yes 26 _ enters_belowC b s c d (belowWorld w b n) hS3 [b, w.heap.size + 1 + 1] hT (fun w2 => w2.heap[w.heap.size + 1 + 1]? = some (.cells #[.int .u64 v] 28 (0, 0))) ?_ ?_).mono ?_
  · intro w2 p u h1 h2
    exact (heap_other _ _ _ _ (by unfold belowWorld at h2; rw [z0] at h2; omega)).trans h1
  · have ht := turn_takeWorld (belowWorld w b n) b c []
    exact belowC_yes b w.heap.size (w.heap.size + 1) (w.heap.size + 1 + 1) s c n v d _ _ hs hc hn hn2 (hS3.turn ht (by simp)) (cell_of_one (ht.at z1 (by simp))) (cell_of_one (ht.at z2 (by simp))) (ht.at z3 (by simp)) (by omega) hL
  · rintro e w' ⟨rfl, h1, h2, h3⟩
    exact ⟨rfl, h1, h2, ((((Turn.refl w [b]).alloc _).alloc _).alloc _).new h3 (fun j hj => by simp at hj; rcases hj with rfl | rfl; exact .inr (by simp); exact .inl (by omega))⟩
theorem takeBelow_no (b : Nat) (s : ByteArray) (c n : Nat) (w : World) (hs : s.size ≤ 1048576) (hc : c ≤ 8 * s.size) (hn : 1 ≤ n) (hn2 : n ≤ 18446744073709551615) (hS : SupAt w b s c) (hL : belowL s n c = none) :
    Calls Try.prog 25 #[.pointer (some ⟨b, 0, none⟩), .func (.func 26) #[] #[.pointer (some ⟨w.heap.size, 0, none⟩), .pointer (some ⟨w.heap.size + 1, 0, none⟩), .pointer (some ⟨w.heap.size + 1 + 1, 0, none⟩)]] (belowWorld w b n)
      fun e w' => e = .returned (.int .i64 4) ∧ SupAt w' b s c ∧ Turn w w' [b] := by
  have hb := hS.lt
  obtain ⟨z0, z1, z2, z3⟩ := three_at w (.cells #[.pointer (some ⟨b, 0, none⟩)] 25) (.cells #[.int .u64 n] 28) (.cells #[.int .u64 0] 28)
  have hS3 : SupAt (belowWorld w b n) b s c := ((hS.alloc _).alloc _).alloc _
  have hT : ∀ k, k ∈ [b, w.heap.size + 1 + 1] → k < (belowWorld w b n).heap.size := by intro k hk; simp at hk; unfold belowWorld; rw [z0]; omega
  refine (take_no 26 _ enters_belowC b s c (belowWorld w b n) hS3 [b, w.heap.size + 1 + 1] hT (by simp) ?_).mono ?_
  · have ht := turn_takeWorld (belowWorld w b n) b c []
    exact belowC_no b w.heap.size (w.heap.size + 1) (w.heap.size + 1 + 1) s c n _ _ hs hc hn hn2 (hS3.turn ht (by simp)) (cell_of_one (ht.at z1 (by simp))) (cell_of_one (ht.at z2 (by simp))) (ht.at z3 (by simp)) (by omega) hL
  · rintro e w' ⟨rfl, h1, h3⟩
    exact ⟨rfl, h1, ((((Turn.refl w [b]).alloc _).alloc _).alloc _).new h3 (fun j hj => by simp at hj; rcases hj with rfl | rfl; exact .inr (by simp); exact .inl (by omega))⟩

/-- What Bits comes to: the number, the error, where the next bit stands. -/
def bitsR (s : ByteArray) (c : Nat) (n : Int) : Nat × Int × Nat := if n < 1 ∨ 64 < n then (0, 2, c) else if c + n.toNat ≤ 8 * s.size then (valAt s c n.toNat, 0, c + n.toNat) else (0, 4, c)
/-- What Below comes to. -/
def belowR (s : ByteArray) (c : Nat) (n : Nat) : Nat × Int × Nat := if n = 0 then (0, 2, c) else match belowL s n c with
  | some (v, d) => (v, 0, d)
  | none => (0, 4, c)
/-- A number and an error are returned, and so many bits are taken. -/
def NumPost (w : World) (b : Nat) (s : ByteArray) (r : Nat × Int × Nat) (e : Ending) (w' : World) : Prop := e = .returned (.tuple #[.int .u64 r.1, .int .i64 r.2.1]) ∧ SupAt w' b s r.2.2 ∧ Turn w w' [b]

set_option maxHeartbeats 400000 in
theorem bits_sup (b : Nat) (s : ByteArray) (c : Nat) (n : Int) (w : World) (hs : s.size ≤ 1048576) (hc : c ≤ 8 * s.size) (hS : SupAt w b s c) :
    Calls Try.prog 21 #[.pointer (some ⟨b, 0, none⟩), .int .i64 n] w (NumPost w b s (bitsR s c n)) := by
  unfold bitsR
  by_cases h1 : n < 1
  · rw [if_pos (.inl h1)]
    go_enter Try.func21, Try.ntmps21
    go_wp2_with (go_at_call 24; refine (none_sup b s c _ hS).mono ?_; rintro e w' ⟨rfl, rfl⟩)
    go_ret2
    exact ⟨rfl, hS, Turn.refl _ _⟩
  by_cases h2 : 64 < n
  · rw [if_pos (.inr h2)]
    go_enter Try.func21, Try.ntmps21
    go_wp2_with (go_at_call 24; refine (none_sup b s c _ hS).mono ?_; rintro e w' ⟨rfl, rfl⟩)
    go_ret2
    exact ⟨rfl, hS, Turn.refl _ _⟩
  rw [if_neg (by omega)]
  obtain ⟨k, rfl⟩ := Int.eq_ofNat_of_zero_le (show 0 ≤ n by omega)
  rw [Int.toNat_natCast]
  by_cases h3 : c + k ≤ 8 * s.size
  · rw [if_pos h3]
    go_enter Try.func21, Try.ntmps21
    go_wp2_with fail
    refine (none_sup b s c _ hS).mono ?_
    rintro e w' ⟨rfl, rfl⟩
    go_wp2_with fail
    refine (some_yes b s c k _ hs (by omega) h3 hS).mono ?_
    rintro e w1 ⟨rfl, hS1, hg⟩
    go_wp2
    go_ret2
    exact ⟨rfl, hS1, Turn.of_grown hg (by simp)⟩
  · rw [if_neg h3]
    go_enter Try.func21, Try.ntmps21
    go_wp2_with fail
    refine (none_sup b s c _ hS).mono ?_
    rintro e w' ⟨rfl, rfl⟩
    go_wp2_with fail
    refine (some_no b s c k _ hs hc (by omega) (by omega) hS).mono ?_
    rintro e w1 ⟨rfl, m, rfl⟩
    go_wp2
    go_ret2
    exact ⟨rfl, hS, (Turn.refl _ _).drewN m⟩

set_option maxHeartbeats 1000000 in
theorem below_sup (b : Nat) (s : ByteArray) (c n : Nat) (w : World) (hs : s.size ≤ 1048576) (hc : c ≤ 8 * s.size) (hn2 : n ≤ 18446744073709551615) (hS : SupAt w b s c) :
    Calls Try.prog 10 #[.pointer (some ⟨b, 0, none⟩), .int .u64 n] w (NumPost w b s (belowR s c n)) := by
  have hmf := hmf
  have hb := hS.lt
  obtain ⟨r, hr⟩ : ∃ r, belowR s c n = r := ⟨_, rfl⟩
  rw [hr]
  have HR := Lib.hid hr
  clear hr
  by_cases h1 : n = 0
  · subst h1
    go_enter Try.func10, Try.ntmps10
    go_wp2_with fail
    refine (none_sup b s c _ ((hS.alloc _).alloc _)).mono ?_
    rintro e w' ⟨rfl, rfl⟩
    go_wp2
    go_ret2
    rw [← HR.out]
    exact ⟨rfl, (hS.alloc _).alloc _, ((Turn.refl _ _).alloc _).alloc _⟩
  · have hz : ((n : Int) == 0) = false := by simpa using h1
    go_enter Try.func10, Try.ntmps10
    go_wp2_with fail
    refine (none_sup b s c _ ((hS.alloc _).alloc _)).mono ?_
    rintro e w' ⟨rfl, rfl⟩
    go_wp2_with fail
    rcases hL : belowL s n c with _ | ⟨v, d⟩
    · refine (takeBelow_no b s c n w hs hc (by omega) hn2 hS hL).mono ?_
      rintro e w' ⟨rfl, h1, h2⟩
      have HL := Lib.hid hL
      clear hL
      go_wp2
      go_ret2
      have e : r = (0, 4, c) := by rw [← HR.out, belowR, if_neg (by assumption), HL.out]
      subst e
      exact ⟨rfl, h1, h2⟩
    · refine (takeBelow_yes b s c n v d w hs hc (by omega) hn2 hS hL).mono ?_
      rintro e w' ⟨rfl, h1, h2, h3⟩
      have hcell := cell_of_one h2
      have HL := Lib.hid hL
      clear h2 hL
      go_wp2
      go_ret2
      have e : r = (v, 0, d) := by rw [← HR.out, belowR, if_neg (by assumption), HL.out]
      subst e
      exact ⟨rfl, h1, h3⟩

theorem new_sup (s : ByteArray) (w : World) (hs : s.size ≤ 1048576) :
    Calls Try.prog 9 #[.string s] w fun e w' => e = .returned (.pointer (some ⟨w.heap.size, 0, none⟩)) ∧ w' = w.alloc (.cells #[.string s, .int .i64 0, .bool true] 53) := by
  go_enter Try.func9, Try.ntmps9
  go_wp2
  go_ret
  exact ⟨rfl, rfl⟩
theorem new_sup_no (s : ByteArray) (w : World) (hs : 1048576 < s.size) (hs2 : s.size ≤ 9223372036854775807) :
    Calls Try.prog 9 #[.string s] w fun e w' => e = .returned (.pointer none) ∧ w' = w := by
  go_enter Try.func9, Try.ntmps9
  go_wp2
  go_ret
  exact ⟨rfl, rfl⟩
end Go.Proofs.Ytkjfpaaiomioaaa
