/- SupplyNone: its walk. -/
import Derived.Test.YtkjfpaaiomioaaaSupN
import Derived.Test.YtkjfpaaiomioaaaSupS
import Derived.Laws.BytesString
namespace Go.Proofs.Ytkjfpaaiomioaaa
open Go.RowKit Go.Shelf

/-- The bytes of a row of small numbers. -/
def bytesOf (ns : List Int) : ByteArray := ns.foldl (fun r n => r.push (UInt8.ofNat n.toNat)) ByteArray.empty
theorem size_push (r : ByteArray) (x : UInt8) : (r.push x).size = r.size + 1 := by
  show (r.data.push x).size = _
  exact Array.size_push _
theorem size_fold (ns : List Int) : ∀ r : ByteArray, (ns.foldl (fun r n => r.push (UInt8.ofNat n.toNat)) r).size = r.size + ns.length := by
  induction ns with
  | nil => intro r; simp
  | cons n ns ih => intro r; rw [List.foldl_cons, ih, size_push]; simp; omega
theorem size_bytesOf (ns : List Int) : (bytesOf ns).size = ns.length := by
  unfold bytesOf; rw [size_fold]; simp
theorem string_of_row {W : World} {g n c : Nat} {ns : List Int} (h : IntRow W g 5 .u8 ns) (hn : ns.length = n) :
    (convert 27 9 (.slice (some ⟨g, 0, none⟩) n c)).run Try.prog W = .ok (.string (bytesOf ns)) W := by
  subst hn
  rw [run_convert_bytes_string W 27 9 5 _ _ _ Try.underlying27 Try.underlying5 Try.underlying9]
  refine run_bytesToString W _ _ _ ns ?_
  have := run_loadCells_list (P := Try.prog) W ⟨g, 0, none⟩ (ns.map (Value.int .u8)) (by
    intro j v hj
    have hjl : j < ns.length := by
      have := List.getElem?_eq_some_iff.1 hj
      obtain ⟨hlt, _⟩ := this
      simpa using hlt
    have hc := h.cell j hjl
    rw [show (⟨g, 0, none⟩ : Addr).add j = ⟨g, j, none⟩ from by unfold Addr.add; split <;> simp_all]
    rw [hc]
    rw [List.getElem?_map] at hj
    rw [List.getD_eq_getElem?_getD]
    rw [List.getElem?_eq_getElem hjl] at hj ⊢
    simpa using hj)
  rw [List.length_map] at this
  exact this

theorem info_u8 : (Try.prog.info? 5).map (fun i => (i.zero, i.size, i.bytes)) = some (some (.int .u8 0), 1, 1) := by kernel_rfl
theorem mk_u8 (n : Nat) (hn : n ≤ 2000000) (W : World) : (Instr.makeSlice 27 (.int .i64 (n : Int)) (.int .i64 (n : Int))).run Try.prog W = .ok (.slice (some ⟨W.heap.size, 0, none⟩) n n) (W.alloc (.cells (zeroRow .u8 n) 5)) := by
  rw [← zeroRow_made]
  exact run_make_row' 27 5 (.int .u8 0) 1 Try.underlying27 info_u8 rfl .i64 .i64 n (by omega) (by omega) W
/-- One byte more than a supply may have. -/
def bigN : Nat := 1048577
theorem bigN_eq : ((bigN : Nat) : Int) = 1048577 := by unfold bigN; rfl
def bigRow : Array Value := zeroRow .u8 bigN
def bigStr : ByteArray := bytesOf (List.replicate bigN 0)
theorem size_big : bigStr.size = bigN := by unfold bigStr; rw [size_bytesOf, List.length_replicate]
theorem mk_big (W : World) : (Instr.makeSlice 27 (.int .i64 1048577) (.int .i64 1048577)).run Try.prog W = .ok (.slice (some ⟨W.heap.size, 0, none⟩) bigN bigN) (W.alloc (.cells bigRow 5)) := by
  rw [← bigN_eq]
  exact mk_u8 bigN (by unfold bigN; omega) W
theorem conv_big (W : World) : (convert 27 9 (.slice (some ⟨W.heap.size, 0, none⟩) bigN bigN)).run Try.prog (W.alloc (.cells bigRow 5)) = .ok (.string bigStr) (W.alloc (.cells bigRow 5)) :=
  string_of_row (ns := List.replicate bigN 0) (zeroRow_is (heap_alloc_new W _)) (List.length_replicate ..)

set_option maxRecDepth 100000 in
set_option maxHeartbeats 2000000 in
theorem lawNone (n q : Int) (w : World) : Calls Try.prog 6 #[.int .i64 n, .int .u64 q] w fun e w' => e = .returned (.bool true) ∧ Below w.heap.size w w' := by
  have hmk := mk_big
  have hcv := conv_big
  go_enter Try.func6, Try.ntmps6
  go_wp2_with fail
  obtain ⟨W2, hW2⟩ : ∃ W2, W2 = (w.alloc (.cells #[.string ⟨#[]⟩, .int .i64 0, .bool false] 53)).alloc (.cells #[.pointer none, .pointer (some ⟨w.heap.size, 0, none⟩)] 54) := ⟨_, rfl⟩
  obtain ⟨y0, y1, y2⟩ := two_at w (.cells #[.string ⟨#[]⟩, .int .i64 0, .bool false] 53) (.cells #[.pointer none, .pointer (some ⟨w.heap.size, 0, none⟩)] 54)
  have hB : Turn w W2 [] := by rw [hW2]; exact ((Turn.refl _ _).alloc _).alloc _
  rw [← hW2] at y0 y1 y2 ⊢
  have Y0 := Lib.hid y0
  have Y1 := Lib.hid y1
  have Y2 := Lib.hid y2
  clear y0 y1 y2 hW2
  go_loopw [6] (fun i wr => ∃ k : Nat, k ≤ 2 ∧ i = .int .i64 k ∧ Turn W2 wr []) (fun i _ => 2 - (intOf i).toNat)
  case atStart => exact ⟨0, by omega, rfl, Turn.refl _ _⟩
  case round =>
    obtain ⟨k, hk, rfl, hT⟩ := hrel
    by_cases hlt : k < 2
    · have HP : ∃ p, NoSup W2 p ∧ W2.cell? ⟨w.heap.size + 1, k, none⟩ = some (.pointer p) := by
        have h2 := Y2.out
        rcases (show k = 0 ∨ k = 1 by omega) with rfl | rfl
        · exact ⟨none, .inl rfl, by simp [World.cell?, h2]⟩
        · exact ⟨some ⟨w.heap.size, 0, none⟩, .inr ⟨_, rfl, Y1.out⟩, by simp [World.cell?, h2]⟩
      obtain ⟨p, hp, hc⟩ := HP
      have hp0 := hp.turn hT
      have c0 := hT.cell hc (by simp)
      go_wp2_with fail
      refine (none_bits p n _ hp0).mono ?_
      rintro e w1 ⟨rfl, hT1⟩
      have hT1' := hT.trans hT1
      have c1 := hT1'.cell hc (by simp)
      go_wp2_with fail
      refine (none_below p q _ (hp.turn hT1')).mono ?_
      rintro e w2 ⟨rfl, hT2⟩
      have hT2' := hT1'.trans hT2
      have c2 := hT2'.cell hc (by simp)
      go_wp2_with fail
      refine (none_uniform p n _ _ (hp.turn hT2')).mono ?_
      rintro e w3 ⟨rfl, hT3⟩
      have hT3' := hT2'.trans hT3
      have c3 := hT3'.cell hc (by simp)
      go_wp2_with fail
      refine (none_ternary p n n _ (hp.turn hT3')).mono ?_
      rintro e w4 ⟨rfl, hT4⟩
      have hT4' := hT3'.trans hT4
      have c4 := hT4'.cell hc (by simp)
      go_wp2_with fail
      refine (none_bounded p n _ _ (hp.turn hT4')).mono ?_
      rintro e w5 ⟨rfl, hT5⟩
      have hT5' := hT4'.trans hT5
      have c5 := hT5'.cell hc (by simp)
      go_wp2_with fail
      refine (none_left p _ (hp.turn hT5')).mono ?_
      rintro e w6 ⟨rfl, rfl⟩
      go_wp2_with fail
      refine (none_taken p _ (hp.turn hT5')).mono ?_
      rintro e w7 ⟨rfl, rfl⟩
      go_wp2
      go_roundw
      case rel => exact ⟨k + 1, by omega, by go_num, hT5'⟩
      case measure => simp [intOf]; omega
    · obtain ⟨wo, rfl⟩ : ∃ wo : World, wo = wr := ⟨_, rfl⟩
      have hk2 : 2 ≤ k := by omega
      go_wp2_with fail
      refine (new_sup_no bigStr _ (by rw [size_big]; decide) (by rw [size_big]; decide)).mono ?_
      rintro e w1 ⟨rfl, rfl⟩
      go_wp2_with fail
      refine (shown_true _).mono ?_
      rintro e w2 ⟨rfl, hT2⟩
      go_wp2
      go_ret
      exact ⟨rfl, (((hB.trans hT).alloc _).trans hT2).below⟩
end Go.Proofs.Ytkjfpaaiomioaaa
