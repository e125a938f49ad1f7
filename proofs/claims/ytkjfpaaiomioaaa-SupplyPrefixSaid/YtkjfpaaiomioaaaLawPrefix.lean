/- SupplyPrefix: its walk. -/
import Derived.Test.YtkjfpaaiomioaaaSupSu
import Derived.Test.YtkjfpaaiomioaaaLawPlays
namespace Go.Proofs.Ytkjfpaaiomioaaa
open Go.RowKit Go.Shelf

set_option maxRecDepth 100000 in
set_option maxHeartbeats 4000000 in
theorem prefix_near (s rest : ByteArray) (a : Option Addr) (len cap : Nat) (ac : Nat → Nat × Int × Int × Nat) (w : World) (hs : s.size ≤ 20000) (hrest : rest.size ≤ 20000) (hl : len ≤ 60)
    (ha : ∀ k, k < len → ∃ b, a = some b ∧ ActAt w b k (ac k).1 (ac k).2.1 (ac k).2.2.1 (ac k).2.2.2) :
    Calls Try.prog 5 #[.string s, .string rest, .slice a len cap] w fun e w' => e = .returned (.bool true) ∧ Below w.heap.size w w' := by
  have HA := Lib.hid ha
  clear ha
  go_enter Try.func5, Try.ntmps5
  go_wp2_with fail
  refine (new_sup s _ (by omega)).mono ?_
  rintro e w1 ⟨rfl, rfl⟩
  go_wp2_with fail
  refine (rnew s _ (by omega)).mono ?_
  rintro e w1 ⟨rfl, rfl⟩
  go_wp2
  obtain ⟨W2, hW2⟩ : ∃ W2, W2 = (w.alloc (.cells #[.string s, .int .i64 0, .bool true] 53)).alloc (.cells #[.string s, .int .i64 0] 67) := ⟨_, rfl⟩
  obtain ⟨y0, y1, y2⟩ := two_at w (.cells #[.string s, .int .i64 0, .bool true] 53) (.cells #[.string s, .int .i64 0] 67)
  have hB : Turn w W2 [] := by rw [hW2]; exact ((Turn.refl _ _).alloc _).alloc _
  rw [← hW2] at y0 y1 y2 ⊢
  have hS0 : SupAt W2 w.heap.size s 0 := y1
  have hR0 : RefAt W2 (w.heap.size + 1) s 0 := y2
  clear y0 y1 y2 hW2
  go_loopw [9] (fun i wr => ∃ k c : Nat, k ≤ len ∧ i = .int .i64 k ∧ Hid (posAt s ac k = c) ∧ SupAt wr w.heap.size s c ∧ RefAt wr (w.heap.size + 1) s c ∧ Turn w wr []) (fun i _ => len - (intOf i).toNat)
  case atStart => exact ⟨0, 0, by omega, rfl, Lib.hid rfl, hS0, hR0, hB⟩
  case round =>
    obtain ⟨k, c, hk, rfl, HC, hS, hR, hT⟩ := hrel
    have hc : c ≤ 8 * s.size := by rw [← HC.out]; exact posAt_le s ac k
    by_cases hlt : k < len
    · obtain ⟨b, rfl, hwhat, hq, c0, c1, c2, c3⟩ := HA.out k hlt
      have HE : Hid (posAt s ac (k + 1) = actD s c (ac k).1 (ac k).2.1 (ac k).2.2.1 (ac k).2.2.2) := Lib.hid (by rw [posAt, HC.out])
      obtain ⟨⟨what, n, h, q⟩, hak⟩ : ∃ x, ac k = x := ⟨_, rfl⟩
      rw [hak] at hwhat hq c0 c1 c2 c3 HE
      clear hak
      have d0 := hT.cell c0 (by simp)
      have d1 := hT.cell c1 (by simp)
      have d2 := hT.cell c2 (by simp)
      have d3 := hT.cell c3 (by simp)
      rw [add_past _ _ _ (by decide)] at d1 d2 d3
      clear c0 c1 c2 c3
      go_wp2_with fail
      refine (does_any w.heap.size (w.heap.size + 1) s s c what n h q _ (by omega) (by omega) hc hc hq hS hR (by omega) hwhat (Agree.refl _ _ _ _ _ _)).mono ?_
      rintro e w1 ⟨rfl, hS1, hR1, hT1⟩
      have hd := (actD_le hc what n h q).2
      obtain ⟨d, hdd⟩ : ∃ d, actD s c what n h q = d := ⟨_, rfl⟩
      have HE2 : Hid (posAt s ac (k + 1) = d) := Lib.hid (HE.out.trans hdd)
      rw [hdd] at hS1 hR1 hd
      clear hdd HE
      go_wp2_with fail
      refine (left_sup _ s d _ (by omega) hd hS1).mono ?_
      rintro e w2 ⟨rfl, x1, rfl⟩
      go_wp2_with fail
      refine (taken_sup _ s d _ (hS1.drewN x1)).mono ?_
      rintro e w2 ⟨rfl, rfl⟩
      have e8 : ((8 * s.size - d : Nat) : Int) + (d : Int) = 8 * (s.size : Int) := by omega
      go_wp2
      go_roundw
      case rel => exact ⟨k + 1, d, by omega, by go_num, HE2, hS1.drewN x1, hR1.drewN x1, (hT.new hT1 (fun j hj => by simp at hj; exact .inl (by omega))).drewN x1⟩
      case measure => simp [intOf]; omega
    · obtain ⟨wo, rfl⟩ : ∃ wo : World, wo = wr := ⟨_, rfl⟩
      obtain rfl : k = len := by omega
      go_wp2_with fail
      refine (taken_sup _ s c _ hS).mono ?_
      rintro e w2 ⟨rfl, rfl⟩
      have hn1 : (0 : Int) ≤ ((c : Int) + 7) / 8 := by omega
      have hn2 : ((c : Int) + 7) / 8 ≤ (s.size : Int) := by omega
      have hn3 : (((c : Int) + 7) / 8).toNat = (c + 7) / 8 := by omega
      have hN : (c + 7) / 8 ≤ s.size := by omega
      have hAl := alike_extract s rest ((c + 7) / 8) hN
      have hTs : (s.extract 0 ((c + 7) / 8) ++ rest).size = (c + 7) / 8 + rest.size := by rw [ByteArray.size_append, ByteArray.size_extract]; omega
      go_wp2_with fail
      obtain ⟨T, hTT⟩ : ∃ T, s.extract 0 ((c + 7) / 8) ++ rest = T := ⟨_, rfl⟩
      rw [hTT] at hAl hTs ⊢
      have hTs1 : T.size ≤ 40000 := by omega
      have hTs2 : c ≤ 8 * T.size := by omega
      have HAl := Lib.hid hAl
      clear hTT hAl hTs hn1 hn2 hn3 hN
      refine (new_sup T _ (by omega)).mono ?_
      rintro e w3 ⟨rfl, rfl⟩
      go_wp2_with fail
      refine (rnew s _ (by omega)).mono ?_
      rintro e w4 ⟨rfl, rfl⟩
      go_wp2
      obtain ⟨W4, hW4⟩ : ∃ W4, W4 = (w2.alloc (.cells #[.string T, .int .i64 0, .bool true] 53)).alloc (.cells #[.string s, .int .i64 0] 67) := ⟨_, rfl⟩
      obtain ⟨y0, y1, y2⟩ := two_at w2 (.cells #[.string T, .int .i64 0, .bool true] 53) (.cells #[.string s, .int .i64 0] 67)
      have hB4 : Turn w W4 [] := by rw [hW4]; exact (hT.alloc _).alloc _
      rw [← hW4] at y0 y1 y2 ⊢
      have hS4 : SupAt W4 w2.heap.size T 0 := y1
      have hR4 : RefAt W4 (w2.heap.size + 1) s 0 := y2
      have hsz2 := hT.size
      clear y0 y1 y2 hW4
      go_loopw [14] (fun i wr => ∃ j d : Nat, j ≤ k ∧ i = .int .i64 j ∧ Hid (posAt s ac j = d) ∧ SupAt wr w2.heap.size T d ∧ RefAt wr (w2.heap.size + 1) s d ∧ Turn w wr []) (fun i _ => k - (intOf i).toNat)
      case atStart => exact ⟨0, 0, by omega, rfl, Lib.hid rfl, hS4, hR4, hB4⟩
      case round =>
        obtain ⟨j, d, hj, rfl, HD, hSr, hRr, hTr⟩ := hrel
        have hd8 : d ≤ 8 * s.size := by rw [← HD.out]; exact posAt_le s ac j
        have hdc : d ≤ c := by
          rw [← HD.out, ← HC.out]
          have := posAt_mono s ac j (k - j)
          rw [show j + (k - j) = k from by omega] at this
          exact this
        by_cases hlt2 : j < k
        · obtain ⟨b, rfl, hwhat, hq, c0, c1, c2, c3⟩ := HA.out j hlt2
          have HE : Hid (posAt s ac (j + 1) = actD s d (ac j).1 (ac j).2.1 (ac j).2.2.1 (ac j).2.2.2) := Lib.hid (by rw [posAt, HD.out])
          have hnext : posAt s ac (j + 1) ≤ c := by
            rw [← HC.out]
            have := posAt_mono s ac (j + 1) (k - (j + 1))
            rw [show j + 1 + (k - (j + 1)) = k from by omega] at this
            exact this
          obtain ⟨⟨what, n, h, q⟩, hak⟩ : ∃ x, ac j = x := ⟨_, rfl⟩
          rw [hak] at hwhat hq c0 c1 c2 c3 HE
          rw [HE.out] at hnext
          clear hak
          have hbl := World.block_lt_of_cell? _ _ c0
          go_wp2_with fail
          refine (rtaken _ s d _ hRr).mono ?_
          rintro e w5 ⟨rfl, rfl⟩
          go_wp2_with fail
          refine (rnew s _ (by omega)).mono ?_
          rintro e w6 ⟨rfl, rfl⟩
          have hP : RefAt (w5.alloc (.cells #[.string s, .int .i64 0] 67)) w5.heap.size s 0 := heap_alloc_new w5 _
          go_wp2_with fail
          refine (rskip _ s 0 d _ (by omega) (by omega) hP).mono ?_
          rintro e w7 ⟨rfl, hP7, hT7⟩
          rw [Nat.zero_add] at hP7
          have hT7w : Turn w w7 [] := (hTr.alloc _).new hT7 (fun i hi => by have := hTr.size; simp at hi; exact .inl (by omega))
          have e0 := hT7w.cell c0 (by simp)
          have e1 := hT7w.cell c1 (by simp)
          have e2 := hT7w.cell c2 (by simp)
          have e3 := hT7w.cell c3 (by simp)
          rw [add_past _ _ _ (by decide)] at e1 e2 e3
          have hSr7 : SupAt w7 w2.heap.size T d := (hSr.alloc _).turn hT7 (by have := hSr.lt; simp; omega)
          have hRr7 : RefAt w7 (w2.heap.size + 1) s d := (hRr.alloc _).turn hT7 (by have := hRr.lt; simp; omega)
          have hw5 := hT7.size
          have hlt7 := hP7.lt
          have hsr := hSr.lt
          have hrr := hRr.lt
          go_wp2_with fail
          refine (succ_any _ s d what n h q _ (by omega) hd8 hq hP7 hwhat).mono ?_
          by_cases hE : actE s d what n h q = 0
          · have hEb : (actE s d what n h q == 0) = true := by rw [hE]; rfl
            rw [hEb]
            rintro e w8 ⟨rfl, hT8⟩
            have hAg := HAl.out.act hE (by omega)
            have hAD := hAg.actD
            have hT8w : Turn w w8 [] := hT7w.new hT8 (fun i hi => by have := hTr.size; simp at hi; exact .inl (by omega))
            have f0 := hT8w.cell c0 (by simp)
            have f1 := hT8w.cell c1 (by simp)
            have f2 := hT8w.cell c2 (by simp)
            have f3 := hT8w.cell c3 (by simp)
            rw [add_past _ _ _ (by decide)] at f1 f2 f3
            have hSr8 := hSr7.turn hT8 (by simp; omega)
            have hRr8 := hRr7.turn hT8 (by simp; omega)
            have HAg := Lib.hid hAg
            have HAD := Lib.hid hAD
            clear hAg hAD hE hEb e0 e1 e2 e3
            go_wp2_with fail
            refine (does_any _ _ T s d what n h q _ (by omega) (by omega) (by omega) hd8 hq hSr8 hRr8 (by omega) hwhat HAg.out).mono ?_
            rw [HAD.out]
            rintro e w9 ⟨rfl, hS9, hR9, hT9⟩
            obtain ⟨d', hdd⟩ : ∃ d', actD s d what n h q = d' := ⟨_, rfl⟩
            have HE2 : Hid (posAt s ac (j + 1) = d') := Lib.hid (HE.out.trans hdd)
            rw [hdd] at hS9 hR9
            clear hdd HE hnext HAD
            go_wp2
            go_roundw
            case rel => exact ⟨j + 1, d', by omega, by go_num, HE2, hS9, hR9, hT8w.new hT9 (fun i hi => by simp at hi; exact .inl (by omega))⟩
            case measure => simp [intOf]; omega
          · have hEb : (actE s d what n h q == 0) = false := by simpa using hE
            rw [hEb]
            rintro e w8 ⟨rfl, hT8⟩
            have hT8w : Turn w w8 [] := hT7w.new hT8 (fun i hi => by have := hTr.size; simp at hi; exact .inl (by omega))
            have hfail := actD_fails hE
            have HE2 : Hid (posAt s ac (j + 1) = d) := Lib.hid (HE.out.trans hfail)
            have hSr8 := hSr7.turn hT8 (by simp; omega)
            have hRr8 := hRr7.turn hT8 (by simp; omega)
            clear hE hEb hfail e0 e1 e2 e3 HE hnext
            go_wp2
            go_roundw
            case rel => exact ⟨j + 1, d, by omega, by go_num, HE2, hSr8, hRr8, hT8w⟩
            case measure => simp [intOf]; omega
        · go_wp2_with fail
          refine (taken_sup _ T d _ hSr).mono ?_
          rintro e w5 ⟨rfl, rfl⟩
          go_wp2_with fail
          refine (rtaken _ s d _ hRr).mono ?_
          rintro e w6 ⟨rfl, rfl⟩
          go_wp2_with fail
          refine (shown_true _).mono ?_
          rintro e w7 ⟨rfl, hT7⟩
          go_wp2
          go_ret
          exact ⟨rfl, (hTr.trans hT7).below⟩

set_option maxRecDepth 100000 in
set_option maxHeartbeats 2000000 in
theorem prefix_far (s rest : ByteArray) (a : Option Addr) (len cap : Nat) (w : World) (hs : s.size ≤ 9223372036854775807) (hr : rest.size ≤ 9223372036854775807) (hl : len ≤ 9223372036854775807) (h : 20000 < s.size ∨ 20000 < rest.size ∨ 60 < len) :
    Calls Try.prog 5 #[.string s, .string rest, .slice a len cap] w fun e w' => e = .returned (.bool true) ∧ Below w.heap.size w w' := by
  by_cases h1 : 20000 < s.size
  · clear h
    go_enter Try.func5, Try.ntmps5
    go_wp2_with fail
    refine (shown_true _).mono ?_
    rintro e w2 ⟨rfl, hT2⟩
    go_wp2
    go_ret
    exact ⟨rfl, hT2.below⟩

  · by_cases h2 : 20000 < rest.size
    · clear h
      go_enter Try.func5, Try.ntmps5
      go_wp2_with fail
      refine (shown_true _).mono ?_
      rintro e w2 ⟨rfl, hT2⟩
      go_wp2
      go_ret
      exact ⟨rfl, hT2.below⟩

    · have h3 : 60 < len := by omega
      clear h
      go_enter Try.func5, Try.ntmps5
      go_wp2_with fail
      refine (shown_true _).mono ?_
      rintro e w2 ⟨rfl, hT2⟩
      go_wp2
      go_ret
      exact ⟨rfl, hT2.below⟩


theorem lawPrefix (s rest : ByteArray) (a : Option Addr) (len cap : Nat) (w : World) (hs : s.size ≤ maxLen) (hr : rest.size ≤ maxLen) (hl : len ≤ maxLen) (ha : ∀ k, k < len → ∃ b what n h q, a = some b ∧ ActAt w b k what n h q) :
    Calls Try.prog 5 #[.string s, .string rest, .slice a len cap] w fun e w' => e = .returned (.bool true) ∧ Below w.heap.size w w' := by
  unfold maxLen at hs hr hl
  by_cases h : 20000 < s.size ∨ 20000 < rest.size ∨ 60 < len
  · exact prefix_far s rest a len cap w hs hr hl h
  · have H : ∀ k, k < len → ∃ x : Nat × Int × Int × Nat, ∃ b, a = some b ∧ ActAt w b k x.1 x.2.1 x.2.2.1 x.2.2.2 := by
      intro k hk
      obtain ⟨b, what, n, h, q, h1, h2⟩ := ha k hk
      exact ⟨(what, n, h, q), b, h1, h2⟩
    exact prefix_near s rest a len cap (fun k => if hk : k < len then Classical.choose (H k hk) else (0, 0, 0, 0)) w (by omega) (by omega) (by omega) (fun k hk => by
      simp only [dif_pos hk]
      exact Classical.choose_spec (H k hk))
end Go.Proofs.Ytkjfpaaiomioaaa
