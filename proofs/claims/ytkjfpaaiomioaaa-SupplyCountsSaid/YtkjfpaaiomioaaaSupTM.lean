/- The program's supply: Ternary. -/
import Derived.Test.YtkjfpaaiomioaaaSupTC
namespace Go.Proofs.Ytkjfpaaiomioaaa
open Go.RowKit Go.Shelf

/-- What 'taking' with Ternary's closure comes to. -/
def TakeTernPost (W : World) (b g u z n : Nat) (s : ByteArray) (c : Nat) (r : Option (List Int × List Int × Nat)) (en : Ending) (w' : World) : Prop :=
  match r with
  | some (_, O, d) => en = .returned (.int .i64 0) ∧ SupAt w' b s d ∧ (IntRow w' u 40 .i8 O ∧ w'.heap[z]? = some (.cells #[.slice (some ⟨u, 0, none⟩) n n] 33 (0, 0))) ∧ Turn W w' [b, g, u]
  | none => en = .returned (.int .i64 4) ∧ SupAt w' b s c ∧ Turn W w' [b, g, u]

theorem takeTern (b y o p q z g u : Nat) (s : ByteArray) (c n h : Nat) (W : World) (hs : s.size ≤ 1048576) (hc : c ≤ 8 * s.size) (hn : n ≤ 4096) (hh : h ≤ n) (hS : SupAt W b s c)
    (hy : W.heap[y]? = some (.cells #[.int .i64 h] 3 (0, 0))) (hp : W.heap[p]? = some (.cells #[.pointer (some ⟨b, 0, none⟩)] 25 (0, 0))) (hq : W.heap[q]? = some (.cells #[.int .i64 n] 3 (0, 0)))
    (ho : W.heap[o]? = some (.cells #[.slice (some ⟨g, 0, none⟩) n n] 64 (0, 0))) (hz : W.heap[z]? = some (.cells #[.slice (some ⟨u, 0, none⟩) n n] 33 (0, 0)))
    (hg : IntRow W g 3 .i64 ((List.range n).map (fun k : Nat => (k : Int)))) (hu : IntRow W u 40 .i8 (List.replicate n 0))
    (m1 : y ∉ [b, g, u]) (m2 : p ∉ [b, g, u]) (m3 : q ∉ [b, g, u]) (m4 : o ∉ [b, g, u]) (m5 : z ∉ [b, g, u]) (m6 : g ≠ b) (m7 : u ≠ b) (m8 : g ≠ u) :
    Calls Try.prog 25 #[.pointer (some ⟨b, 0, none⟩), .func (.func 28) #[] #[.pointer (some ⟨y, 0, none⟩), .pointer (some ⟨p, 0, none⟩), .pointer (some ⟨q, 0, none⟩), .pointer (some ⟨o, 0, none⟩), .pointer (some ⟨z, 0, none⟩)]] W (TakeTernPost W b g u z n s c (ternF s n h c)) := by
  have hT : ∀ k, k ∈ [b, g, u] → k < W.heap.size := by
    intro k hk; simp at hk
    rcases hk with rfl | rfl | rfl
    · exact hS.lt
    · exact hg.lt
    · exact hu.lt
  have ht := turn_takeWorld W b c []
  have H := ternaryC_any b y o p q z g u s c n h (takeWorld W b c) hs hc hn hh (hS.turn ht (by simp)) (cell_of_one (ht.at hy (by simp))) (cell_of_one (ht.at hp (by simp))) (cell_of_one (ht.at hq (by simp))) (cell_of_one (ht.at ho (by simp))) (cell_of_one (ht.at hz (by simp)))
    (hg.turn ht (by simp)) (hu.turn ht (by simp)) m1 m2 m3 m4 m5 m6 m7 m8
  rcases hr : ternF s n h c with _ | ⟨L, O, d⟩
  · rw [hr] at H
    exact take_no 28 _ enters_ternaryC b s c W hS [b, g, u] hT (by simp) H
  · rw [hr] at H
    refine take_yes 28 _ enters_ternaryC b s c d W hS [b, g, u] hT (fun w2 => IntRow w2 u 40 .i8 O ∧ w2.heap[z]? = some (.cells #[.slice (some ⟨u, 0, none⟩) n n] 33 (0, 0))) ?_ (H.mono ?_)
    · rintro w2 p u' ⟨h1, h3⟩ h2
      have := hu.lt
      have := block_lt hz
      exact ⟨h1.other (by omega) u', (heap_other _ _ _ _ (by omega)).trans h3⟩
    · rintro e w2 ⟨rfl, h1, h2, h3⟩
      exact ⟨rfl, h1, ⟨h2, h3.at (ht.at hz (by simp)) m5⟩, h3⟩

theorem five_at (w : World) (o1 o2 o3 o4 o5 : Obj) : let W := ((((w.alloc o1).alloc o2).alloc o3).alloc o4).alloc o5
    W.heap.size = w.heap.size + 5 ∧ W.heap[w.heap.size]? = some o1 ∧ W.heap[w.heap.size + 1]? = some o2 ∧ W.heap[w.heap.size + 1 + 1]? = some o3 ∧ W.heap[w.heap.size + 1 + 1 + 1]? = some o4 ∧
      W.heap[w.heap.size + 1 + 1 + 1 + 1]? = some o5 := by
  obtain ⟨h1, h2, h3, h4, h5⟩ := four_at w o1 o2 o3 o4
  have e5 := heap_alloc_new ((((w.alloc o1).alloc o2).alloc o3).alloc o4) o5
  rw [h1] at e5
  refine ⟨by simp, ?_, ?_, ?_, ?_, e5⟩
  · rw [heap_past _ _ _ (by rw [h1]; omega)]; exact h2
  · rw [heap_past _ _ _ (by rw [h1]; omega)]; exact h3
  · rw [heap_past _ _ _ (by rw [h1]; omega)]; exact h4
  · rw [heap_past _ _ _ (by rw [h1]; omega)]; exact h5
theorem two_at (w : World) (o1 o2 : Obj) : ((w.alloc o1).alloc o2).heap.size = w.heap.size + 2 ∧ ((w.alloc o1).alloc o2).heap[w.heap.size]? = some o1 ∧ ((w.alloc o1).alloc o2).heap[w.heap.size + 1]? = some o2 := by
  have e2 := heap_alloc_new (w.alloc o1) o2
  simp only [World.size_alloc] at e2
  refine ⟨by simp, ?_, e2⟩
  rw [heap_past _ _ _ (by simp)]; exact heap_alloc_new w o1

theorem turn_glue {w W5 wr w1 w' : World} {b g u : Nat} (h5 : Turn w W5 [b]) (hT : Turn W5 wr [g]) (hg : w.heap.size ≤ g) (ha : Turn wr w1 []) (h2 : Turn w1 w' [b, g, u]) (hu : w.heap.size ≤ u) : Turn w w' [b] :=
  ((h5.new hT (fun j hj => by simp at hj; omega)).new ha (fun j hj => by simp at hj)).new h2 (fun j hj => by
    simp at hj
    rcases hj with rfl | rfl | rfl
    · exact .inr (by simp)
    · exact .inl hg
    · exact .inl hu)

set_option maxHeartbeats 1000000 in
theorem ternary_sup (b : Nat) (s : ByteArray) (c : Nat) (n h : Int) (w : World) (hs : s.size ≤ 1048576) (hc : c ≤ 8 * s.size) (hS : SupAt w b s c) :
    Calls Try.prog 12 #[.pointer (some ⟨b, 0, none⟩), .int .i64 n, .int .i64 h] w (ListPost w b s 40 .i8 (ternaryR s c n h)) := by
  have hmf := hmf
  have hb := hS.lt
  obtain ⟨r, hr⟩ : ∃ r, ternaryR s c n h = r := ⟨_, rfl⟩
  rw [hr]
  have HR := Lib.hid hr
  clear hr
  by_cases h1 : n < 1 ∨ 4096 < n ∨ h < 0 ∨ n < h
  · have e : r = ([], 2, c) := by rw [← HR.out, ternaryR, if_pos h1]
    subst e
    by_cases h2 : n < 1
    · go_enter Try.func12, Try.ntmps12
      go_wp2_with fail
      refine (none_sup b s c _ (((hS.alloc _).alloc _).alloc _)).mono ?_
      rintro e w' ⟨rfl, rfl⟩
      go_wp2
      go_ret2
      exact listPost_nil (((hS.alloc _).alloc _).alloc _) ((((Turn.refl _ _).alloc _).alloc _).alloc _)
    by_cases h3 : 4096 < n
    · go_enter Try.func12, Try.ntmps12
      go_wp2_with fail
      refine (none_sup b s c _ (((hS.alloc _).alloc _).alloc _)).mono ?_
      rintro e w' ⟨rfl, rfl⟩
      go_wp2
      go_ret2
      exact listPost_nil (((hS.alloc _).alloc _).alloc _) ((((Turn.refl _ _).alloc _).alloc _).alloc _)
    by_cases h4 : h < 0
    · clear h1
      go_enter Try.func12, Try.ntmps12
      go_wp2_with fail
      refine (none_sup b s c _ (((hS.alloc _).alloc _).alloc _)).mono ?_
      rintro e w' ⟨rfl, rfl⟩
      go_wp2
      go_ret2
      exact listPost_nil (((hS.alloc _).alloc _).alloc _) ((((Turn.refl _ _).alloc _).alloc _).alloc _)
    · have h5 : n < h := by omega
      clear h1
      go_enter Try.func12, Try.ntmps12
      go_wp2_with fail
      refine (none_sup b s c _ (((hS.alloc _).alloc _).alloc _)).mono ?_
      rintro e w' ⟨rfl, rfl⟩
      go_wp2
      go_ret2
      exact listPost_nil (((hS.alloc _).alloc _).alloc _) ((((Turn.refl _ _).alloc _).alloc _).alloc _)
  · have e : r = ternaryR s c n h := HR.out.symm
    rw [ternaryR, if_neg h1] at e
    have h2 : ¬ n < 1 := by omega
    have h3 : ¬ 4096 < n := by omega
    have h4 : ¬ h < 0 := by omega
    have h5 : ¬ n < h := by omega
    clear h1
    obtain ⟨k, rfl⟩ := Int.eq_ofNat_of_zero_le (show 0 ≤ n by omega)
    obtain ⟨j, rfl⟩ := Int.eq_ofNat_of_zero_le (show 0 ≤ h by omega)
    rw [Int.toNat_natCast, Int.toNat_natCast] at e
    have HE := Lib.hid e
    clear e
    have hmk := mk_int k (by omega)
    have hmk8 := mk_i8 k (by omega)
    go_enter Try.func12, Try.ntmps12
    go_wp2_with fail
    refine (none_sup b s c _ (((hS.alloc _).alloc _).alloc _)).mono ?_
    rintro e w' ⟨rfl, rfl⟩
    go_wp2
    obtain ⟨W5, hW5⟩ : ∃ W5, W5 = ((((w.alloc (.cells #[.pointer (some ⟨b, 0, none⟩)] 25)).alloc (.cells #[.int .i64 k] 3)).alloc (.cells #[.int .i64 j] 3)).alloc (.cells (zeroRow .i64 k) 3)).alloc (.cells #[.slice (some ⟨w.heap.size + 1 + 1 + 1, 0, none⟩) k k] 64) := ⟨_, rfl⟩
    obtain ⟨z0, z1, z2, z3, z4, z5⟩ := five_at w (.cells #[.pointer (some ⟨b, 0, none⟩)] 25) (.cells #[.int .i64 k] 3) (.cells #[.int .i64 j] 3) (.cells (zeroRow .i64 k) 3) (.cells #[.slice (some ⟨w.heap.size + 1 + 1 + 1, 0, none⟩) k k] 64)
    have hS5 : SupAt W5 b s c := by rw [hW5]; exact ((((hS.alloc _).alloc _).alloc _).alloc _).alloc _
    have hT5 : Turn w W5 [b] := by rw [hW5]; exact (((((Turn.refl w [b]).alloc _).alloc _).alloc _).alloc _).alloc _
    rw [← hW5] at z0 z1 z2 z3 z4 z5 ⊢
    have Z0 := Lib.hid z0
    have Z1 := Lib.hid z1
    have Z2 := Lib.hid z2
    have Z3 := Lib.hid z3
    have Z4 := Lib.hid z4
    have Z5 := Lib.hid z5
    clear z0 z1 z2 z3 z4 z5 hW5
    go_loopw [9, 35] (fun _ i wr => ∃ m : Nat, m ≤ k ∧ i = .int .i64 m ∧ IntRow wr (w.heap.size + 1 + 1 + 1) 3 .i64 ((List.range m).map (fun t : Nat => (t : Int)) ++ List.replicate (k - m) 0) ∧ Turn W5 wr [w.heap.size + 1 + 1 + 1]) (fun _ i _ => k - (intOf i).toNat)
    case atStart => exact ⟨0, Nat.zero_le _, rfl, zeroRow_is Z4.out, Turn.refl _ _⟩
    case round =>
      obtain ⟨m, hm, rfl, hrow, hT⟩ := hrel
      have c5 := cell_of_one (hT.at Z5.out (by simp))
      by_cases hlt : m < k
      · have cm := hrow.cell m (by simp; omega)
        have fm := hrow.free m
        go_wp2
        go_roundw
        case rel =>
          refine ⟨m + 1, by omega, by go_num, ?_, hT.setCell (.inl (by simp)) _⟩
          have hset := hrow.set m m
          have e1 := fill_set ((List.range m).map (fun t : Nat => (t : Int))) (m : Int) 0 k (by simp; omega)
          rw [List.length_map, List.length_range] at e1
          rw [e1] at hset
          rw [List.range_succ, List.map_append]
          exact hset
        case measure => simp [intOf]; omega
      · obtain rfl : m = k := by omega
        rw [Nat.sub_self, List.replicate_zero, List.append_nil] at hrow
        have c0 := cell_of_one (hT.at Z1.out (by simp; omega))
        have c1 := cell_of_one (hT.at Z2.out (by simp))
        have hsz := hT.size
        have hz0 := Z0.out
        have hSw : SupAt wr b s c := hS5.turn hT (by simp; omega)
        obtain ⟨y0, y1, y2⟩ := two_at wr (.cells (zeroRow .i8 m) 40) (.cells #[.slice (some ⟨wr.heap.size, 0, none⟩) m m] 33)
        have hSz : w.heap.size + 5 ≤ wr.heap.size := by omega
        have q0 : w.heap.size < wr.heap.size := by omega
        have q1 : w.heap.size + 1 < wr.heap.size := by omega
        have q4 : w.heap.size + 1 + 1 + 1 + 1 < wr.heap.size := by omega
        clear hz0 hsz
        have Y0 := Lib.hid y0
        have Y1 := Lib.hid y1
        have Y2 := Lib.hid y2
        have HROW := Lib.hid hrow
        clear y0 y1 y2 hrow
        go_wp2_with fail
        refine (takeTern b (w.heap.size + 1 + 1) (w.heap.size + 1 + 1 + 1 + 1) w.heap.size (w.heap.size + 1) (wr.heap.size + 1) (w.heap.size + 1 + 1 + 1) wr.heap.size s c m j _ hs hc (by omega) (by omega) ((hSw.alloc _).alloc _)
          ?a1 ?a2 ?a3 ?a4 Y2.out ?a5 (zeroRow_is Y1.out) (by simp; omega) (by simp; omega) (by simp; omega) (by simp; omega) (by simp; omega) (by omega) (by omega) (by omega)).mono ?_
        case a1 => rw [heap_past _ _ _ (by simp; omega), heap_past _ _ _ (by omega)]; exact hT.at Z3.out (by simp)
        case a2 => rw [heap_past _ _ _ (by simp; omega), heap_past _ _ _ (by omega)]; exact hT.at Z1.out (by simp; omega)
        case a3 => rw [heap_past _ _ _ (by simp; omega), heap_past _ _ _ (by omega)]; exact hT.at Z2.out (by simp)
        case a4 => rw [heap_past _ _ _ (by simp; omega), heap_past _ _ _ (by omega)]; exact hT.at Z5.out (by simp)
        case a5 => unfold IntRow; rw [heap_past _ _ _ (by simp; omega), heap_past _ _ _ (by omega)]; exact HROW.out
        rcases hL : ternF s m j c with _ | ⟨L, O, d⟩
        · have HL := Lib.hid hL
          clear hL
          rintro e w' ⟨rfl, h1, h2⟩
          go_wp2
          go_ret2
          have e : r = ([], 4, c) := by rw [HE.out, HL.out]
          subst e
          exact listPost_nil h1 (turn_glue hT5 hT (by omega) (((Turn.refl wr []).alloc _).alloc _) h2 (by omega))
        · have HL := Lib.hid hL
          clear hL
          rintro e w' ⟨rfl, h1, ⟨h2, h5⟩, h6⟩
          have hcell := cell_of_one h5
          clear h5
          go_wp2
          go_ret2
          have e : r = (O, 0, d) := by rw [HE.out, HL.out]
          subst e
          exact listPost_row h2 (ternF_spec hc (by omega) HL.out).2.1 (by omega) (by omega) h1 (turn_glue hT5 hT (by omega) (((Turn.refl wr []).alloc _).alloc _) h6 (by omega))
end Go.Proofs.Ytkjfpaaiomioaaa
