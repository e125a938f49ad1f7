/- What a key makes of digits and of an element: the reference, by data.
What a key makes of digits and of an element: both sides make the same.
The law on what a key makes of digits and of an element: by data.
Relinearising: both sides make the same; the law's walk, by data. -/
import Derived.Test.YtmjildbdkecolaaGreatPsr53
import Derived.Test.YtmjildbdkecolaaGreatPsr51
import Derived.Test.YtmjildbdkecolaaGreatPsr52
set_option linter.unusedSimpArgs false
set_option linter.unusedVariables false
set_option linter.unnecessarySimpa false
namespace Go.Proofs.YtmjildbdkecolaaGreat
open Go.RowKit
instance fi12 : FI Tryz.prog 12 Tryz.f12 := ⟨Tryz.func12, Tryz.call12⟩
instance fi15 : FI Tryz.prog 15 Tryz.f15 := ⟨Tryz.func15, Tryz.call15⟩
instance fi50 : FI Tryz.prog 50 Tryz.f50 := ⟨Tryz.func50, Tryz.call50⟩
set_option maxRecDepth 20000
set_option maxHeartbeats 4000000
theorem r18fits_den (p : PD) (hvp : VP p) (hs : p.special ≠ 0) (L : LG) (hL : LFit L) : Den Tryz.prog 50 [.agg (parL true p), lgD true L] (.val (.bool (evry (fun i => fitL p L.m (L.E i)) L.m && decide (0 < L.m)))) := by
 refine den_intro (fn := Tryz.f50) rfl rfl rfl rfl rfl ?_
 have hLm := hL.m
 refine go ?_
 refine c_down (fun j => L.m - j) (fun j => j ≤ L.m ∧ ∀ k, k < j → fitL p L.m (L.E k) = true) (fun j : Nat => [(5, .val (.int .i64 (j : Int)))]) (fun _ => []) 0 (fun j ⟨hj, hF⟩ => ?_) ⟨by omega, fun e he => by omega⟩
 refine go ?_
 refine c_if (fun h3 => ?_) (fun h3 => ?_)
 ·have hfe : fitL p L.m (L.E j) = !(decide (errI (eOk p (L.E j)) ≠ 0) || !(L.E j).sp || decide ((L.E j).lv ≠ (L.m : Int))) := by
   unfold fitL
   cases q1 : eOk p (L.E j) <;> cases q2 : (L.E j).sp <;> simp [errI]
  refine go ?_
  refine r_call (r09Check_den p hvp hs (L.E j) (hL.l j) (hL.e j)) ?_
  refine go ?_
  refine c_ifB (fun h4 => ?_) (fun h4 => ?_)
  ·refine go ?_
   refine fin ?_
   rw [evry_no (f := fun i => fitL p L.m (L.E i)) h3 (by show fitL p L.m (L.E j) = false; rw [hfe, h4]; rfl)]
   exact cv
  ·refine go ?_
   refine ⟨j + 1, ⟨by omega, fun i hi => ?_⟩, by omega, ?_⟩
   ·by_cases q : i < j
    ·exact hF i q
    ·obtain rfl : i = j := by omega
     rw [hfe, h4]; rfl
   ·exact sub
 ·refine go ?_
  refine fin ?_
  rw [evry_iff.2 (fun k hk => hF k (by omega))]
  exact cv
theorem Kv.check18 {p : PD} {n L0 : Nat} {f : Int} {A B : Nat → Nat → Nat → Nat} (h : Kv p n L0 f A B) : Den Tryz.prog 35 [.agg (parL true p), .agg (keyV true f L0 n A B)] (.val (.int .i64 0)) := by
 have := r18CheckKey_den p h.fit f (lgV L0 L0 true (L0 + 1) n A) (lgV L0 L0 true (L0 + 1) n B) (h.fitA A) (h.fitA B)
 rw [h.key] at this
 exact this
abbrev sum2 (lv n : Nat) (X Y : Nat → Nat → Nat) : List D := elL false lv true (lv + 1) n X ++ elL false lv true (lv + 1) n Y
abbrev sumJ (lv n : Nat) : Nat → List D
 | 0 => zeroEl ++ zeroEl
 | 1 => elL false lv true (lv + 1) n (fun _ _ => 0) ++ zeroEl
 | _ => elL false lv true (lv + 1) n (fun _ _ => 0) ++ elL false lv true (lv + 1) n (fun _ _ => 0)
theorem r18ApplyDigits_ok (p : PD) (n L0 : Nat) (f : Int) (A B : Nat → Nat → Nat → Nat) (h : Kv p n L0 f A B) (lv ex : Nat) (hC : Cv p n lv ex) (L : Nat → Nat → Nat → Nat) (hLg : ∀ j, Vg p lv (L j)) (b : Nat) (hb : b = invV (resI ((p.prime ^ ex : Nat) : Int) p.special) p.special) :
  Den Tryz.prog 12 [.agg (parL true p), .agg (keyV true f L0 n A B), .fz true lv 3 (fun i => elL true lv true (lv + 1) n (L i)), .val (.int .i64 (ex : Int))]
   (.tup [.agg (elL false lv false lv n (downV p lv b p.special (p.prime ^ ex) (innV p lv n L (fun j => resV L0 lv (A j)) lv))), .agg (elL false lv false lv n (downV p lv b p.special (p.prime ^ ex) (innV p lv n L (fun j => resV L0 lv (B j)) lv))), .val (.int .i64 0)]) := by
 refine den_intro (fn := Tryz.f12) rfl rfl rfl rfl rfl ?_
 have hL := hC.lv
 have h32 := hL.n32
 have hN : NatIs p.n n := hL.n
 have h1 := hL.l1
 have l2 := hL.l2
 have l24 := hL.vp.len2
 have e1 := hC.st.e1
 have e2 := hC.st.e2
 have ht := h.top
 have hle : lv ≤ L0 := by omega
 have hst : Den Tryz.prog 49 [.agg (parL true p), .val (.int .i64 1), .val (.int .i64 (ex : Int))] (.val (.bool true)) := by
  have := r14State_den p h.fit 1 (ex : Int)
  rw [stB_iff.2 ⟨h.good, by omega, by omega, e1, e2⟩] at this
  exact this
 have hall : evry (fun i => fitL p lv ((lgV lv lv true (lv + 1) n L).E i)) lv = true := evry_iff.2 (fun i _ => by
  show (true && decide ((lv : Int) = (lv : Int)) && eOk p ⟨lv, true, lv + 1, fun _ => n, L i⟩) = true
  rw [eOk_V hL (hLg i), decide_eq_true rfl]; rfl)
 have hsa : Den Tryz.prog 50 [.agg (parL true p), .fz true lv 3 (fun i => elL true lv true (lv + 1) n (L i))] (.val (.bool true)) := by
  have := r18fits_den p hL.vp hL.sp (lgV lv lv true (lv + 1) n L) ⟨by show lv ≤ _; omega, fun _ => by show lv + 1 ≤ _; omega, fun _ _ => by show n ≤ _; omega⟩
  rw [show evry (fun i => fitL p (lgV lv lv true (lv + 1) n L).m ((lgV lv lv true (lv + 1) n L).E i)) (lgV lv lv true (lv + 1) n L).m = true from hall, show decide (0 < (lgV lv lv true (lv + 1) n L).m) = true from decide_eq_true (by show 0 < lv; omega)] at this
  exact this
 obtain ⟨b1, b2, b3⟩ := good_pow hC.st.good hC.st.e2
 have hT := b1 ex (Nat.le_refl _)
 have hq : p.special = modQ p lv lv := by unfold modQ; rw [if_neg (by omega)]
 have hpl := r13Plain_den p ex b1 (good_ex b1 b2)
 have hz : Den Tryz.prog 51 [.agg (parL true p), .agg (elL true lv true (lv + 1) n (L 0)), zerosD n] (.agg (elL false lv true (lv + 1) n (fun _ _ => 0))) := r13Zero_den p n lv true hL _ rfl
 have hre : ∀ (K : Nat → Nat → Nat → Nat), (∀ j, Vg p L0 (K j)) → ∀ j, Den Tryz.prog 52 [.agg (parL true p), .agg (elL true L0 true (L0 + 1) n (K j)), .val (.int .i64 (lv : Int)), .val (.bool true)] (.tup [.agg (elL false lv true (lv + 1) n (resV L0 lv (K j))), .val (.int .i64 0)]) := fun K hK j => r09RestrictS_den p n L0 lv h.lv h1 hle (K j) (hK j)
 have hmu : ∀ (K : Nat → Nat → Nat → Nat), (∀ j, Vg p L0 (K j)) → ∀ j, Den Tryz.prog 54 [.agg (parL true p), .agg (elL true lv true (lv + 1) n (L j)), .agg (elL true lv true (lv + 1) n (resV L0 lv (K j)))] (.agg (elL false lv true (lv + 1) n (prdV p lv n (L j) (resV L0 lv (K j))))) := fun K hK j => r13Mul_den p n lv true hL _ _ (hLg j) (vg_res hle (hK j))
 have had : ∀ (K : Nat → Nat → Nat → Nat), (∀ j, Vg p L0 (K j)) → ∀ j, Den Tryz.prog 53 [.agg (parL true p), .agg (elL true lv true (lv + 1) n (innV p lv n L (fun j => resV L0 lv (K j)) j)), .agg (elL true lv true (lv + 1) n (prdV p lv n (L j) (resV L0 lv (K j))))] (.agg (elL false lv true (lv + 1) n (innV p lv n L (fun j => resV L0 lv (K j)) (j + 1)))) := fun K hK j => by
  have := r13Add_den p n lv true hL _ _ (vg_inn hL L (fun j => resV L0 lv (K j)) j) (vg_prd hL (L j) (resV L0 lv (K j)))
  rw [sumV_1 hL] at this
  exact this
 have hdv : ∀ X, Vg p lv X → Den Tryz.prog 56 [.agg (parL true p), .agg (elL true lv true (lv + 1) n X), .val (.int .u32 (p.special : Int)), .val (.int .i64 ((p.prime ^ ex : Nat) : Int))] (.agg (elL false lv false lv n (downV p lv b p.special (p.prime ^ ex) X))) := fun X hX => by
  have := r18DividedS_den p n lv (p.prime ^ ex) hL hT X hX p.special b hq hb
  rw [divS_eq hL] at this
  exact this
 have dA := hdv _ (vg_inn hL L (fun j => resV L0 lv (A j)) lv)
 have dB := hdv _ (vg_inn hL L (fun j => resV L0 lv (B j)) lv)
 have zA : (fun _ _ => 0) = innV p lv n L (fun j => resV L0 lv (A j)) 0 := rfl
 have zB : (fun _ _ => 0) = innV p lv n L (fun j => resV L0 lv (B j)) 0 := rfl
 have reA : ∀ j, Den Tryz.prog 52 [.agg (parL true p), .agg (elL true L0 true (L0 + 1) n (A j)), .val (.int .i64 (lv : Int)), .val (.bool true)] (.tup [.agg (elL false lv true (lv + 1) n ((fun j => resV L0 lv (A j)) j)), .val (.int .i64 0)]) := hre A h.a
 have reB : ∀ j, Den Tryz.prog 52 [.agg (parL true p), .agg (elL true L0 true (L0 + 1) n (B j)), .val (.int .i64 (lv : Int)), .val (.bool true)] (.tup [.agg (elL false lv true (lv + 1) n ((fun j => resV L0 lv (B j)) j)), .val (.int .i64 0)]) := hre B h.b
 have muA : ∀ j, Den Tryz.prog 54 [.agg (parL true p), .agg (elL true lv true (lv + 1) n (L j)), .agg (elL true lv true (lv + 1) n ((fun j => resV L0 lv (A j)) j))] (.agg (elL false lv true (lv + 1) n (prdV p lv n (L j) ((fun j => resV L0 lv (A j)) j)))) := hmu A h.a
 have muB : ∀ j, Den Tryz.prog 54 [.agg (parL true p), .agg (elL true lv true (lv + 1) n (L j)), .agg (elL true lv true (lv + 1) n ((fun j => resV L0 lv (B j)) j))] (.agg (elL false lv true (lv + 1) n (prdV p lv n (L j) ((fun j => resV L0 lv (B j)) j)))) := hmu B h.b
 have adA : ∀ j, Den Tryz.prog 53 [.agg (parL true p), .agg (elL true lv true (lv + 1) n (innV p lv n L (fun j => resV L0 lv (A j)) j)), .agg (elL true lv true (lv + 1) n (prdV p lv n (L j) ((fun j => resV L0 lv (A j)) j)))] (.agg (elL false lv true (lv + 1) n (innV p lv n L (fun j => resV L0 lv (A j)) (j + 1)))) := had A h.a
 have adB : ∀ j, Den Tryz.prog 53 [.agg (parL true p), .agg (elL true lv true (lv + 1) n (innV p lv n L (fun j => resV L0 lv (B j)) j)), .agg (elL true lv true (lv + 1) n (prdV p lv n (L j) ((fun j => resV L0 lv (B j)) j)))] (.agg (elL false lv true (lv + 1) n (innV p lv n L (fun j => resV L0 lv (B j)) (j + 1)))) := had B h.b
 clear hre hmu had hdv
 generalize (fun j => resV L0 lv (A j)) = RA at *
 generalize (fun j => resV L0 lv (B j)) = RB at *
 generalize innV p lv n L RA = X at *
 generalize innV p lv n L RB = Y at *
 generalize prdV p lv n = Q at *
 generalize downV p lv b p.special (p.prime ^ ex) = DV at *
 refine go ?_
 refine r_call h.check18 ?_
 refine go ?_
 refine g_callM (hl := fun hb => r_call hst (run_fin rfl)) (h := ?_)
 refine go ?_
 refine g_callM (hl := fun hb => r_call hsa (run_fin rfl)) (h := ?_)
 refine go ?_
 refine c_ifB (fun h2 => ?_) (fun h2 => ?_)
 ·exfalso
  simp at h2
  omega
 clear h2
 refine go ?_
 refine c_down (fun j => 2 - j) (fun j => j ≤ 2) (fun j : Nat => [(12, .val (.int .i64 (j : Int)))]) (fun j => [(1011, some (.lit 90 (sumJ lv n j)))]) 0 (fun j hj => ?_) (by omega)
 refine go ?_
 refine c_if (fun h3 => ?_) (fun h3 => ?_)
 ·obtain rfl | rfl : j = 0 ∨ j = 1 := by omega
  ·refine go ?_
   refine r_call hz ?_
   refine go ?_
   refine ⟨1, by omega, by omega, ?_⟩
   exact sub
  ·refine go ?_
   refine r_call hz ?_
   refine go ?_
   refine ⟨2, by omega, by omega, ?_⟩
   exact sub
 obtain rfl : j = 2 := by omega
 refine c_lit 1011 (sum2 lv n (X 0) (Y 0)) (by rw [← zA, ← zB]; exact .cons (.refl _) (.cons (.refl _) (.cons (.refl _) (.cons (.refl _) (.cons (.refl _) (.cons (.refl _) .nil)))))) ?_
 refine go ?_
 refine c_up lv (fun j => [(13, .val (.int .i64 (j : Nat)))]) (fun j => [(1011, some (.lit 90 (sum2 lv n (X j) (Y j))))]) (fun j hj => ?_)
 refine go ?_
 refine c_if (fun h3 => ?_) (fun h3 => ?_)
 ·refine go ?_
  refine r_call (reA j) ?_
  refine go ?_
  refine r_call (reB j) ?_
  refine go ?_
  refine r_call (muA j) ?_
  refine go ?_
  refine r_call (adA j) ?_
  refine go ?_
  refine r_call (muB j) ?_
  refine go ?_
  refine r_call (adB j) ?_
  refine go ?_
  refine ⟨h3, ?_⟩
  exact sub
 ·obtain rfl : j = lv := by omega
  refine go ?_
  refine r_call hpl ?_
  refine go ?_
  refine r_call dA ?_
  refine go ?_
  refine r_call dB ?_
  refine go ?_
  refine fin ?_
  exact cv
open Go.RowKit
set_option maxRecDepth 20000
set_option maxHeartbeats 4000000
/-- Two functions make the same two elements and error of the same. -/
def AlikeA (f g : FuncId) (ds : List D) : Prop := ∃ (l n : Nat) (e : Int) (X Y : Nat → Nat → Nat), l ≤ 1000 ∧ n ≤ 32 ∧ Den Tryz.prog f ds (.tup [.agg (elL false l false l n X), .agg (elL false l false l n Y), .val (.int .i64 e)]) ∧ Den Tryz.prog g ds (.tup [.agg (elL false l false l n X), .agg (elL false l false l n Y), .val (.int .i64 e)])
theorem zero_el {n : Nat} {X : Nat → Nat → Nat} : Cvt (.agg zeroEl) (.agg (elL false 0 false 0 n X)) := Cvt.agg (.cons (.of_eq rfl) (.cons (.of_eq rfl) (.cons (Cvt.nil _ _ _) .nil)))
theorem AlikeA.zero {f g : FuncId} {ds : List D} {e : Int} (h1 : Den Tryz.prog f ds (.tup [.agg zeroEl, .agg zeroEl, .val (.int .i64 e)])) (h2 : Den Tryz.prog g ds (.tup [.agg zeroEl, .agg zeroEl, .val (.int .i64 e)])) : AlikeA f g ds :=
 ⟨0, 0, e, fun _ _ => 0, fun _ _ => 0, by omega, by omega, h1.res (Cvt.tup (.cons zero_el (.cons zero_el (.cons (.of_eq rfl) .nil)))), h2.res (Cvt.tup (.cons zero_el (.cons zero_el (.cons (.of_eq rfl) .nil))))⟩
theorem AlikeA.arg {f g : FuncId} {ds ds' : List D} (h : AlikeA f g ds') (hc : CvtL ds ds') : AlikeA f g ds := by
 obtain ⟨l, n, e, X, Y, h1, h2, h3, h4⟩ := h
 exact ⟨l, n, e, X, Y, h1, h2, h3.arg hc, h4.arg hc⟩
theorem fitE_iff {p : PD} {e : EG} (h : fitE p e = true) : e.sp = true ∧ e.lv = (p.chain.length : Int) ∧ eOk p e = true := by
 unfold fitE at h
 simp only [Bool.and_eq_true, decide_eq_true_eq] at h
 exact ⟨h.1.1, h.1.2, h.2⟩
theorem EIn.zero {e : EG} (h : EIn e) (h0 : e.m = 0) (r j : Nat) : e.g r j = 0 := h.o3 r j (by rw [h.o2 r (by omega)]; omega)
theorem list_vg {p : PD} {A : LG} {n lv m : Nat} {sp : Bool} (hL : Lv p n lv) (hA : LIn A) (hm : A.m = m) (hl : ∀ i, i < m → (A.E i).lv = (lv : Int)) (hs : ∀ i, i < m → (A.E i).sp = sp) (h : ∀ i, i < m → eOk p (A.E i) = true) (i : Nat) : Vg p lv (A.E i).g := by
 by_cases q : i < m
 ·exact el_vg hL (hA.e i) (hl i q) (hs i q) (h i q)
 ·exact fun r j => by rw [(hA.e i).zero (hA.o i (by omega)) r j]; exact hL.q0 r
/-- A valid key among any. -/
theorem key_of {p : PD} (hp : PFit p) {f : Int} {A B : LG} (hA : LIn A) (hB : LIn B) (h : keyB p f A B = true) : ∃ n L0 : Nat, Kv p n L0 f (fun i => (A.E i).g) (fun i => (B.E i).g) ∧ Cvt (.agg (keyD true f A B)) (.agg (keyV true f L0 n (fun i => (A.E i).g) (fun i => (B.E i).g))) := by
 have hg := keyB_good h
 obtain ⟨n, hn, n4, n32⟩ := good_n hg
 have hvp := good_VP hg
 have hL : Lv p n p.chain.length := ⟨hvp, good_special hg, hn, hvp.len1, Nat.le_refl _⟩
 unfold keyB at h
 simp only [Bool.and_eq_true, decide_eq_true_eq, evry_iff] at h
 obtain ⟨⟨⟨⟨⟨_, hf⟩, hAm⟩, hBm⟩, hAe⟩, hBe⟩ := h
 rw [hAm] at hAe
 rw [hBm] at hBe
 refine ⟨n, p.chain.length, ⟨hp, hg, hL, rfl, hf, fun i => ?_, fun i => ?_⟩, ?_⟩
 ·exact list_vg hL hA hAm (fun i hi => (fitE_iff (hAe i hi)).2.1) (fun i hi => (fitE_iff (hAe i hi)).1) (fun i hi => (fitE_iff (hAe i hi)).2.2) i
 ·exact list_vg hL hB hBm (fun i hi => (fitE_iff (hBe i hi)).2.1) (fun i hi => (fitE_iff (hBe i hi)).1) (fun i hi => (fitE_iff (hBe i hi)).2.2) i
 ·exact Cvt.agg (.cons (.of_eq rfl) (.cons (list_cv (sp := true) hn hAm (fun i hi => (fitE_iff (hAe i hi)).2.1) (fun i hi => (fitE_iff (hAe i hi)).1) (fun i hi => (fitE_iff (hAe i hi)).2.2)) (.cons (list_cv (sp := true) hn hBm (fun i hi => (fitE_iff (hBe i hi)).2.1) (fun i hi => (fitE_iff (hBe i hi)).1) (fun i hi => (fitE_iff (hBe i hi)).2.2)) .nil)))
section
variable {p : PD} {f : Int} {A B : LG} {e : EG} {ex : Int}
theorem swApply_of {m lv M n l n2 : Nat} {x : Int} {G : Nat → Nat → Nat → Nat} {X Y : Nat → Nat → Nat} (h : Den Tryz.prog 42 [.agg (parL true p), .agg (elD true e)] (.tup [.fz false m 3 (fun i => elL false lv true M n (G i)), .val (.int .i64 0)]))
  (h2 : Den Tryz.prog 11 [.agg (parL true p), .agg (keyD true f A B), .fz true m 3 (fun i => elL true lv true M n (G i)), .val (.int .i64 ex)] (.tup [.agg (elL false l false l n2 X), .agg (elL false l false l n2 Y), .val (.int .i64 x)])) :
  Den Tryz.prog 14 [.agg (parL true p), .agg (keyD true f A B), .agg (elD true e), .val (.int .i64 ex)] (.tup [.agg (elL false l false l n2 X), .agg (elL false l false l n2 Y), .val (.int .i64 x)]) := by
 refine den_intro (fn := Tryz.f14) rfl rfl rfl rfl rfl ?_
 refine go ?_
 refine r_call h ?_
 refine go ?_
 refine r_call h2 ?_
 refine go ?_
 refine fin ?_
 exact cv
theorem r18Apply_of {m lv M n l n2 : Nat} {x : Int} {G : Nat → Nat → Nat → Nat} {X Y : Nat → Nat → Nat} (h : Den Tryz.prog 58 [.agg (parL true p), .agg (elD true e)] (.tup [.fz false m 3 (fun i => elL false lv true M n (G i)), .val (.int .i64 0)]))
  (h2 : Den Tryz.prog 12 [.agg (parL true p), .agg (keyD true f A B), .fz true m 3 (fun i => elL true lv true M n (G i)), .val (.int .i64 ex)] (.tup [.agg (elL false l false l n2 X), .agg (elL false l false l n2 Y), .val (.int .i64 x)])) :
  Den Tryz.prog 15 [.agg (parL true p), .agg (keyD true f A B), .agg (elD true e), .val (.int .i64 ex)] (.tup [.agg (elL false l false l n2 X), .agg (elL false l false l n2 Y), .val (.int .i64 x)]) := by
 refine den_intro (fn := Tryz.f15) rfl rfl rfl rfl rfl ?_
 refine go ?_
 refine r_call h ?_
 refine go ?_
 refine r_call h2 ?_
 refine go ?_
 refine fin ?_
 exact cv
end
open Go.RowKit
instance fi3 : FI Tryz.prog 3 Tryz.f3 := ⟨Tryz.func3, Tryz.call3⟩
set_option maxRecDepth 20000
set_option maxHeartbeats 4000000
open Go.RowKit
instance fi17 : FI Tryz.prog 17 Tryz.f17 := ⟨Tryz.func17, Tryz.call17⟩
instance fi18 : FI Tryz.prog 18 Tryz.f18 := ⟨Tryz.func18, Tryz.call18⟩
instance fi4 : FI Tryz.prog 4 Tryz.f4 := ⟨Tryz.func4, Tryz.call4⟩
set_option maxRecDepth 20000
set_option maxHeartbeats 4000000
/-- Two functions make the same ciphertext and error of the same. -/
def AlikeC (f g : FuncId) (ds : List D) : Prop := ∃ (l x k n : Nat) (e : Int) (G : Nat → Nat → Nat → Nat), (l ≤ 1000 ∧ k ≤ 3 ∧ n ≤ 32) ∧ Den Tryz.prog f ds (.tup [.agg (ciV false l x k n G), .val (.int .i64 e)]) ∧ Den Tryz.prog g ds (.tup [.agg (ciV false l x k n G), .val (.int .i64 e)])
theorem AlikeC.zero {f g : FuncId} {ds : List D} {e : Int} (h1 : Den Tryz.prog f ds (.tup [.agg zeroC, .val (.int .i64 e)])) (h2 : Den Tryz.prog g ds (.tup [.agg zeroC, .val (.int .i64 e)])) : AlikeC f g ds :=
 ⟨0, 0, 0, 0, e, fun _ _ _ => 0, by omega, h1.res zero_res, h2.res zero_res⟩
theorem AlikeC.arg {f g : FuncId} {ds ds' : List D} (h : AlikeC f g ds') (hc : CvtL ds ds') : AlikeC f g ds := by
 obtain ⟨l, x, k, n, e, G, h1, h2, h3⟩ := h
 exact ⟨l, x, k, n, e, G, h1, h2.arg hc, h3.arg hc⟩
noncomputable def relB (p : PD) (f : Int) (A B : LG) (c : CG) : Bool := ciOk p c && decide (c.k = 3) && keyB p f A B && decide (f = 2)
theorem rel_all {c k f : Bool} {n : Nat} (h : (decide (errI c ≠ 0) || decide (n ≠ 3) || decide (errI k ≠ 0) || !f) = false) : (c && decide (n = 3) && k && f) = true := by
 cases c
 ·simp at h
 ·cases k
  ·simp at h
  ·cases f
   ·simp at h
   ·simp at h
    simp [h]
section
variable (p : PD) (hp : PFit p) (f : Int) (A B : LG) (c : CG) (fA : LFit A) (fB : LFit B) (hk : c.k ≤ 1000000) (hm : ∀ i, (c.P i).m ≤ 1000000) (hl : ∀ i k, (c.P i).ln k ≤ 1000000) (h : relB p f A B c = false)
include hp fA fB hk hm hl h
theorem swRelinearise_bad : Den Tryz.prog 17 [.agg (parL true p), .agg (keyD true f A B), .agg (ciD true c)] (.tup [.agg zeroC, .val (.int .i64 2)]) := by
 refine den_intro (fn := Tryz.f17) rfl rfl rfl rfl rfl ?_
 refine go ?_
 refine r_call (ciCheck_den p hp c hk hl hm) ?_
 refine go ?_
 refine g_callM (hl := fun hb => r_call (swCheckKey_den p hp f A B fA fB) (run_fin rfl)) (h := ?_)
 refine go ?_
 refine c_ifB (fun h1 => ?_) (fun h1 => ?_)
 ·refine go ?_
  refine fin ?_
  exact cv
 ·exfalso
  rw [show decide (f ≠ 2) = !decide (f = 2) by by_cases q : f = 2 <;> simp [q]] at h1
  have := rel_all h1
  unfold relB at h
  rw [this] at h
  cases h
theorem r18Relinearise_bad : Den Tryz.prog 18 [.agg (parL true p), .agg (keyD true f A B), .agg (ciD true c)] (.tup [.agg zeroC, .val (.int .i64 2)]) := by
 refine den_intro (fn := Tryz.f18) rfl rfl rfl rfl rfl ?_
 refine go ?_
 refine r_call (r14Check_den p hp c hk hl hm) ?_
 refine go ?_
 refine g_callM (hl := fun hb => r_call (r18CheckKey_den p hp f A B fA fB) (run_fin rfl)) (h := ?_)
 refine go ?_
 refine c_ifB (fun h1 => ?_) (fun h1 => ?_)
 ·refine go ?_
  refine fin ?_
  exact cv
 ·exfalso
  rw [show decide (f ≠ 2) = !decide (f = 2) by by_cases q : f = 2 <;> simp [q]] at h1
  have := rel_all h1
  unfold relB at h
  rw [this] at h
  cases h
end
/-- What relinearising makes of three parts. -/
def relV (p : PD) (lv : Nat) (G : Nat → Nat → Nat → Nat) (X Y : Nat → Nat → Nat) (i : Nat) : Nat → Nat → Nat := addV p lv (G i) (if i = 0 then X else Y)
section
variable (p : PD) (n L0 : Nat) (A B : Nat → Nat → Nat → Nat) (h : Kv p n L0 2 A B) (lv ex : Nat) (hC : Cv p n lv ex) (G : Nat → Nat → Nat → Nat) (hG : Vc p lv G) (X Y : Nat → Nat → Nat) (hX : Vg p lv X) (hY : Vg p lv Y)
include h hC hG hX hY
theorem swRelinearise_ok (ha : Den Tryz.prog 14 [.agg (parL true p), .agg (keyV true 2 L0 n A B), .agg (elL true lv false lv n (G 2)), .val (.int .i64 (ex : Int))] (.tup [.agg (elL false lv false lv n X), .agg (elL false lv false lv n Y), .val (.int .i64 0)])) :
  Den Tryz.prog 17 [.agg (parL true p), .agg (keyV true 2 L0 n A B), .agg (ciV true lv ex 3 n G)] (.tup [.agg (ciV false lv ex 2 n (relV p lv G X Y)), .val (.int .i64 0)]) := by
 refine den_intro (fn := Tryz.f17) rfl rfl rfl rfl rfl ?_
 have hL := hC.lv
 have h1 : Den Tryz.prog 60 [.agg (parL true p), .agg (elL true lv false lv n (G 0)), .agg (elL true lv false lv n X)] (.tup [.agg (elL false lv false lv n (relV p lv G X Y 0)), .val (.int .i64 0)]) := rgAdd_den p n lv false hL _ _ (hG 0) hX
 have h2 : Den Tryz.prog 60 [.agg (parL true p), .agg (elL true lv false lv n (G 1)), .agg (elL true lv false lv n Y)] (.tup [.agg (elL false lv false lv n (relV p lv G X Y 1)), .val (.int .i64 0)]) := rgAdd_den p n lv false hL _ _ (hG 1) hY
 generalize relV p lv G X Y = R at *
 refine go ?_
 refine r_call (ciCheckV_den p n lv ex 3 hC (.inr rfl) G hG) ?_
 refine go ?_
 refine g_callM (hl := fun hb => r_call h.check (run_fin rfl)) (h := ?_)
 refine go ?_
 refine c_ifB (fun q => ?_) (fun q => ?_)
 ·exfalso
  simp at q
 clear q
 refine go ?_
 refine r_call ha ?_
 refine go ?_
 refine r_call h1 ?_
 refine go ?_
 refine r_call h2 ?_
 refine go ?_
 refine fin_arr (1000 + 80) (fun i => elL false lv false lv n (R i)) (fun e he => ?_) (fun _ => rfl) ?_
 ·match e, he with
  | 0, _ => rfl
  | 1, _ => rfl
 refine fin_freeze (1000 + 80) ?_
 refine fin ?_
 exact cv
theorem r18Relinearise_ok (ha : Den Tryz.prog 15 [.agg (parL true p), .agg (keyV true 2 L0 n A B), .agg (elL true lv false lv n (G 2)), .val (.int .i64 (ex : Int))] (.tup [.agg (elL false lv false lv n X), .agg (elL false lv false lv n Y), .val (.int .i64 0)])) :
  Den Tryz.prog 18 [.agg (parL true p), .agg (keyV true 2 L0 n A B), .agg (ciV true lv ex 3 n G)] (.tup [.agg (ciV false lv ex 2 n (relV p lv G X Y)), .val (.int .i64 0)]) := by
 refine den_intro (fn := Tryz.f18) rfl rfl rfl rfl rfl ?_
 have hL := hC.lv
 have h1 : Den Tryz.prog 53 [.agg (parL true p), .agg (elL true lv false lv n (G 0)), .agg (elL true lv false lv n X)] (.agg (elL false lv false lv n (relV p lv G X Y 0))) := by
  have := r13Add_den p n lv false hL _ _ (hG 0) hX
  rw [sumV_1 hL] at this
  exact this
 have h2 : Den Tryz.prog 53 [.agg (parL true p), .agg (elL true lv false lv n (G 1)), .agg (elL true lv false lv n Y)] (.agg (elL false lv false lv n (relV p lv G X Y 1))) := by
  have := r13Add_den p n lv false hL _ _ (hG 1) hY
  rw [sumV_1 hL] at this
  exact this
 generalize relV p lv G X Y = R at *
 refine go ?_
 refine r_call (r14CheckV_den p n lv ex 3 hC (.inr rfl) G hG) ?_
 refine go ?_
 refine g_callM (hl := fun hb => r_call h.check18 (run_fin rfl)) (h := ?_)
 refine go ?_
 refine c_ifB (fun q => ?_) (fun q => ?_)
 ·exfalso
  simp at q
 clear q
 refine go ?_
 refine r_call ha ?_
 refine go ?_
 refine r_call h1 ?_
 refine go ?_
 refine r_call h2 ?_
 refine go ?_
 refine fin_arr (1000 + 64) (fun i => elL false lv false lv n (R i)) (fun e he => ?_) (fun _ => rfl) ?_
 ·match e, he with
  | 0, _ => rfl
  | 1, _ => rfl
 refine fin_freeze (1000 + 64) ?_
 refine fin ?_
 exact cv
end
theorem vg_dwn {p : PD} {n lv : Nat} (h : Lv p n lv) (b q t : Nat) (g : Nat → Nat → Nat) : Vg p lv (downV p lv b q t g) := fun r _ => Nat.mod_lt _ (h.q0 r)
theorem alike_relinearise (p : PD) (hp : PFit p) (f : Int) (A B : LG) (hA : LIn A) (hB : LIn B) (fA : LFit A) (fB : LFit B) (c : CG) (hd : Dflt c) (hs : smallC c = true) : AlikeC 17 18 [.agg (parL true p), .agg (keyD true f A B), .agg (ciD true c)] := by
 obtain ⟨s1, s2, s3⟩ := hd.small hs
 cases q : relB p f A B c with
 | false => exact .zero (swRelinearise_bad p hp f A B c fA fB s1 s2 s3 q) (r18Relinearise_bad p hp f A B c fA fB s1 s2 s3 q)
 | true =>
  unfold relB at q
  simp only [Bool.and_eq_true, decide_eq_true_eq] at q
  obtain ⟨⟨⟨q1, q2⟩, qk⟩, rfl⟩ := q
  obtain ⟨n, L0, hK, hkc⟩ := key_of hp hA hB qk
  have hst := ciOk_st q1
  obtain ⟨lv, hlv⟩ := Int.eq_ofNat_of_zero_le (show 0 ≤ c.lv by have := hst.l1; omega)
  obtain ⟨ex, hex⟩ := Int.eq_ofNat_of_zero_le (show 0 ≤ c.ex by have := hst.e1; omega)
  rw [hlv, hex] at hst
  have hC : Cv p n lv ex := ⟨hp, hst, hK.lv.n⟩
  have hL := hC.lv
  have l2 := hL.l2
  have l24 := hL.vp.len2
  have hG := ci_vc hd hK.lv.n hlv hL q1
  have hcc := ci_cvt hK.lv.n hlv q2 q1
  have hcl : CvtL [.agg (parL true p), .agg (keyD true 2 A B), .agg (ciD true c)] [.agg (parL true p), .agg (keyV true 2 L0 n (fun i => (A.E i).g) (fun i => (B.E i).g)), .agg (ciV true lv ex 3 n (partG c))] :=
   .cons (.of_eq rfl) (.cons hkc (.cons (Cvt.agg (.cons (.of_eq (by rw [hlv])) (.cons (.of_eq (by rw [hex])) (.cons hcc .nil)))) .nil))
  have hD : ∀ j, Vg p lv (dgV p lv (partG c 2) j) := fun j k i => resI_lt (hL.q0 k)
  have d1 := swDigits_ok p n lv hp hK.good hL (partG c 2) (hG 2)
  have d2 := r18Digits_ok p n lv hp hK.good hL (partG c 2) (hG 2)
  have s1 := swApplyDigits_ok p n L0 2 _ _ hK lv ex hC _ hD _ rfl
  have s2 := r18ApplyDigits_ok p n L0 2 _ _ hK lv ex hC _ hD _ rfl
  have a1 := swApply_of (A := lgV L0 L0 true (L0 + 1) n (fun i => (A.E i).g)) (B := lgV L0 L0 true (L0 + 1) n (fun i => (B.E i).g)) (e := ⟨lv, false, lv, fun _ => n, partG c 2⟩) d1 s1
  have a2 := r18Apply_of (A := lgV L0 L0 true (L0 + 1) n (fun i => (A.E i).g)) (B := lgV L0 L0 true (L0 + 1) n (fun i => (B.E i).g)) (e := ⟨lv, false, lv, fun _ => n, partG c 2⟩) d2 s2
  exact ⟨lv, ex, 2, n, 0, _, by have := hL.n32; omega, (swRelinearise_ok p n L0 _ _ hK lv ex hC (partG c) hG _ _ (vg_dwn hL _ _ _ _) (vg_dwn hL _ _ _ _) a1).arg hcl, (r18Relinearise_ok p n L0 _ _ hK lv ex hC (partG c) hG _ _ (vg_dwn hL _ _ _ _) (vg_dwn hL _ _ _ _) a2).arg hcl⟩
theorem three_f2 {a b c d : Bool} (h : (!a || !b || !c || d) = false) : a = true ∧ b = true ∧ c = true := by
 cases a <;> cases b <;> cases c <;> simp_all
theorem swRelins_den (p : PD) (hp : PFit p) (f : Int) (A B : LG) (hA : LIn A) (hB : LIn B) (c : CG) (hd : Dflt c) (haw : Den Tryz.prog 10 [] (.val (.bool true))) : Den Tryz.prog 4 [.agg (parL true p), .agg (keyD true f A B), .agg (ciD true c)] (.val (.bool true)) := by
 have hal := fun fA fB hs => alike_relinearise p hp f A B hA hB fA fB c hd hs
 refine den_intro (fn := Tryz.f4) rfl rfl rfl rfl rfl ?_
 refine go ?_
 refine r_callO (law18large_den A hA.m (fun i => (hA.e i).m) (fun i => (hA.e i).l)) ?_
 refine go ?_
 refine g_callM (hl := fun hb => r_callO (law18large_den B hB.m (fun i => (hB.e i).m) (fun i => (hB.e i).l)) (run_fin rfl)) (h := ?_)
 refine go ?_
 refine g_callM (hl := fun hb => r_call (large14_den c hd.k hd.m hd.l) (run_fin rfl)) (h := ?_)
 refine go ?_
 refine c_ifB (fun q => ?_) (fun q => ?_)
 ·refine go ?_
  refine r_call haw ?_
  refine go ?_
  refine fin ?_
  exact cv
 obtain ⟨qA, qB, qc⟩ := three_f2 q
 clear q
 obtain ⟨l, x, k, n, e, G, ⟨b1, b2, b3⟩, h1, h2⟩ := hal (hA.small qA) (hB.small qB) qc
 have hs := r14SameV_den l x k n b1 b2 b3 G G (fun _ _ _ _ _ _ => rfl)
 clear hal
 refine go ?_
 refine r_call h1 ?_
 refine go ?_
 refine r_call h2 ?_
 refine go ?_
 refine r_call hs ?_
 refine go ?_
 refine g_callM (hl := fun hb => r_call haw (run_fin rfl)) (h := ?_)
 refine go ?_
 refine fin_slot 6 (.val (.bool true)) ?_ ?_
 ·exact .eq (by simp)
 ·refine fin ?_
  exact cv
end Go.Proofs.YtmjildbdkecolaaGreat
