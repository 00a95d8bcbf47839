/- The contracts of the reference of texts and forms. -/
import Derived.Test.YtciepffocobgpaaGreatDoorMb
import Derived.Test.YtciepffocobgpaaGreatDoorMa
import Derived.Test.YtciepffocobgpaaGreatDoorMh
namespace Go.Proofs.YtciepffocobgpaaGreatDoor
open Go Go.Sx Go.RowKit
set_option linter.unusedSimpArgs false
set_option linter.unusedVariables false
theorem rin (s : ByteArray) (k lo hi : Nat) (w : World) :
    Calls Tryz.prog 81 #[.string s, .int .i64 k, .int .i64 lo, .int .i64 hi] w fun e w' => e = .returned (.bool (inR (toL s) k lo hi)) ∧ w = w' := by
  refine calls_X Tryz.func81 rfl Tryz.ntmps81 Tryz.results81 rfl rfl (by kernel_rfl) fun R hR => ?_
  simp only [push_cast, Nat.reduceBEq, Nat.reduceLeDiff, Nat.reduceAdd]
  refine ⟨fun h => ?_, fun h => ?_, hR _ _ ⟨?_, rfl⟩⟩
  · simp only [decide_eq_true_eq] at h; omega
  · simp only [Bool.and_eq_true, decide_eq_true_eq] at h; omega
  · unfold inR
    by_cases hk : k < s.size
    · obtain ⟨c, h1, _, h3⟩ := take_bt s k hk
      have := c.toNat_lt
      rw [h1, h3, decide_eq_true (show (k : Int) < s.size by omega), w64 (by omega) (by omega)]
      simp only [Bool.true_and]
      rw [Bool.eq_iff_iff.2 (show decide ((lo : Int) ≤ c.toNat) = true ↔ decide (lo ≤ c.toNat) = true by simp), Bool.eq_iff_iff.2 (show decide ((c.toNat : Int) ≤ hi) = true ↔ decide (c.toNat ≤ hi) = true by simp)]
    · rw [decide_eq_false (show ¬ ((k : Int) < s.size) by omega), List.getElem?_eq_none (by rw [toL_len]; omega)]
      rfl
theorem inR_drop (l : Bytes) (k i lo hi : Nat) : inR l (k + i) lo hi = inR (l.drop k) i lo hi := by unfold inR; rw [List.getElem?_drop]
set_option maxRecDepth 20000 in
set_option maxHeartbeats 8000000 in
theorem rchar (s : ByteArray) (k : Nat) (hk : k < s.size) (hs : s.size ≤ 9223372036854775000) (w : World) :
    Calls Tryz.prog 44 #[.string s, .int .i64 k] w fun e w' => e = .returned (.int .i64 (chr ((toL s).drop k))) ∧ w = w' := by
  obtain ⟨x, h1, _, h3⟩ := take_bt s k hk
  have hx := x.toNat_lt
  have hd : (toL s).drop k = x :: (toL s).drop (k + 1) := by
    have hk' : k < (toL s).length := by rw [toL_len]; exact hk
    rw [List.getElem?_eq_getElem hk'] at h1
    cases h1
    exact List.drop_eq_getElem_cons hk'
  refine calls_X Tryz.func44 rfl Tryz.ntmps44 Tryz.results44 rfl rfl (by kernel_rfl) fun R hR => ?_
  simp only [push_cast, Nat.reduceBEq, Nat.reduceLeDiff, Nat.reduceAdd]
  rw [h3, w64 (n := (x.toNat : Int)) (by omega) (by omega)]
  refine ⟨by omega, ?_⟩
  have e1 : IntKind.i64.wrap ((k : Int) + 1) = ((k + 1 : Nat) : Int) := w64 (by omega) (by omega)
  have e2 : IntKind.i64.wrap ((k : Int) + 2) = ((k + 2 : Nat) : Int) := w64 (by omega) (by omega)
  have e3 : IntKind.i64.wrap ((k : Int) + 3) = ((k + 3 : Nat) : Int) := w64 (by omega) (by omega)
  have c0 : chr ((toL s).drop k) = chr (x :: (toL s).drop (k + 1)) := by rw [hd]
  have hcs : (x.toNat < 128) ∨ (128 ≤ x.toNat ∧ x.toNat < 194) ∨ (194 ≤ x.toNat ∧ x.toNat ≤ 223) ∨ (x.toNat = 224) ∨ (x.toNat = 237) ∨ (224 ≤ x.toNat ∧ x.toNat ≤ 239 ∧ x.toNat ≠ 224 ∧ x.toNat ≠ 237) ∨ (x.toNat = 240) ∨ (x.toNat = 244) ∨ (240 ≤ x.toNat ∧ x.toNat ≤ 244 ∧ x.toNat ≠ 240 ∧ x.toNat ≠ 244) ∨ (244 < x.toNat) := by omega
  rcases hcs with hx0 | hx1 | hx2 | hx3 | hx4 | hx5 | hx6 | hx7 | hx8 | hx9
  · have d0 : decide ((x.toNat : Int) < 128) = true := by simp only [decide_eq_true_eq]; omega
    have d1 : decide (194 ≤ (x.toNat : Int)) = false := by simp only [decide_eq_false_iff_not]; omega
    have d2 : decide ((x.toNat : Int) ≤ 223) = true := by simp only [decide_eq_true_eq]; omega
    have d3 : decide ((x.toNat : Int) = 224) = false := by simp only [decide_eq_false_iff_not]; omega
    have d4 : decide ((x.toNat : Int) = 237) = false := by simp only [decide_eq_false_iff_not]; omega
    have d5 : decide (224 ≤ (x.toNat : Int)) = false := by simp only [decide_eq_false_iff_not]; omega
    have d6 : decide ((x.toNat : Int) ≤ 239) = true := by simp only [decide_eq_true_eq]; omega
    have d7 : decide ((x.toNat : Int) = 240) = false := by simp only [decide_eq_false_iff_not]; omega
    have d8 : decide ((x.toNat : Int) = 244) = false := by simp only [decide_eq_false_iff_not]; omega
    have d9 : decide (240 ≤ (x.toNat : Int)) = false := by simp only [decide_eq_false_iff_not]; omega
    have d10 : decide ((x.toNat : Int) ≤ 244) = true := by simp only [decide_eq_true_eq]; omega
    rw [chr] at c0
    simp only [show (x.toNat < 128) = True from by simp only [eq_iff_iff, iff_true, iff_false]; omega, show (194 ≤ x.toNat) = False from by simp only [eq_iff_iff, iff_true, iff_false]; omega, show (x.toNat ≤ 223) = True from by simp only [eq_iff_iff, iff_true, iff_false]; omega, show (x.toNat = 224) = False from by simp only [eq_iff_iff, iff_true, iff_false]; omega, show (x.toNat = 237) = False from by simp only [eq_iff_iff, iff_true, iff_false]; omega, show (224 ≤ x.toNat) = False from by simp only [eq_iff_iff, iff_true, iff_false]; omega, show (x.toNat ≤ 239) = True from by simp only [eq_iff_iff, iff_true, iff_false]; omega, show (x.toNat = 240) = False from by simp only [eq_iff_iff, iff_true, iff_false]; omega, show (x.toNat = 244) = False from by simp only [eq_iff_iff, iff_true, iff_false]; omega, show (240 ≤ x.toNat) = False from by simp only [eq_iff_iff, iff_true, iff_false]; omega, show (x.toNat ≤ 244) = True from by simp only [eq_iff_iff, iff_true, iff_false]; omega, if_true, if_false, decide_true, decide_false, Bool.true_and, Bool.false_and, Bool.and_false, Bool.false_eq_true, ite_true, ite_false] at c0
    simp only [push_cast, Nat.reduceBEq, Nat.reduceLeDiff, Nat.reduceAdd, d0, d1, d2, d3, d4, d5, d6, d7, d8, d9, d10]
    exact hR _ _ ⟨by rw [c0]; rfl, rfl⟩
  · have d0 : decide ((x.toNat : Int) < 128) = false := by simp only [decide_eq_false_iff_not]; omega
    have d1 : decide (194 ≤ (x.toNat : Int)) = false := by simp only [decide_eq_false_iff_not]; omega
    have d2 : decide ((x.toNat : Int) ≤ 223) = true := by simp only [decide_eq_true_eq]; omega
    have d3 : decide ((x.toNat : Int) = 224) = false := by simp only [decide_eq_false_iff_not]; omega
    have d4 : decide ((x.toNat : Int) = 237) = false := by simp only [decide_eq_false_iff_not]; omega
    have d5 : decide (224 ≤ (x.toNat : Int)) = false := by simp only [decide_eq_false_iff_not]; omega
    have d6 : decide ((x.toNat : Int) ≤ 239) = true := by simp only [decide_eq_true_eq]; omega
    have d7 : decide ((x.toNat : Int) = 240) = false := by simp only [decide_eq_false_iff_not]; omega
    have d8 : decide ((x.toNat : Int) = 244) = false := by simp only [decide_eq_false_iff_not]; omega
    have d9 : decide (240 ≤ (x.toNat : Int)) = false := by simp only [decide_eq_false_iff_not]; omega
    have d10 : decide ((x.toNat : Int) ≤ 244) = true := by simp only [decide_eq_true_eq]; omega
    rw [chr] at c0
    simp only [show (x.toNat < 128) = False from by simp only [eq_iff_iff, iff_true, iff_false]; omega, show (194 ≤ x.toNat) = False from by simp only [eq_iff_iff, iff_true, iff_false]; omega, show (x.toNat ≤ 223) = True from by simp only [eq_iff_iff, iff_true, iff_false]; omega, show (x.toNat = 224) = False from by simp only [eq_iff_iff, iff_true, iff_false]; omega, show (x.toNat = 237) = False from by simp only [eq_iff_iff, iff_true, iff_false]; omega, show (224 ≤ x.toNat) = False from by simp only [eq_iff_iff, iff_true, iff_false]; omega, show (x.toNat ≤ 239) = True from by simp only [eq_iff_iff, iff_true, iff_false]; omega, show (x.toNat = 240) = False from by simp only [eq_iff_iff, iff_true, iff_false]; omega, show (x.toNat = 244) = False from by simp only [eq_iff_iff, iff_true, iff_false]; omega, show (240 ≤ x.toNat) = False from by simp only [eq_iff_iff, iff_true, iff_false]; omega, show (x.toNat ≤ 244) = True from by simp only [eq_iff_iff, iff_true, iff_false]; omega, if_true, if_false, decide_true, decide_false, Bool.true_and, Bool.false_and, Bool.and_false, Bool.false_eq_true, ite_true, ite_false] at c0
    simp only [push_cast, Nat.reduceBEq, Nat.reduceLeDiff, Nat.reduceAdd, d0, d1, d2, d3, d4, d5, d6, d7, d8, d9, d10]
    exact hR _ _ ⟨by rw [c0]; rfl, rfl⟩
  · have d0 : decide ((x.toNat : Int) < 128) = false := by simp only [decide_eq_false_iff_not]; omega
    have d1 : decide (194 ≤ (x.toNat : Int)) = true := by simp only [decide_eq_true_eq]; omega
    have d2 : decide ((x.toNat : Int) ≤ 223) = true := by simp only [decide_eq_true_eq]; omega
    have d3 : decide ((x.toNat : Int) = 224) = false := by simp only [decide_eq_false_iff_not]; omega
    have d4 : decide ((x.toNat : Int) = 237) = false := by simp only [decide_eq_false_iff_not]; omega
    have d5 : decide (224 ≤ (x.toNat : Int)) = false := by simp only [decide_eq_false_iff_not]; omega
    have d6 : decide ((x.toNat : Int) ≤ 239) = true := by simp only [decide_eq_true_eq]; omega
    have d7 : decide ((x.toNat : Int) = 240) = false := by simp only [decide_eq_false_iff_not]; omega
    have d8 : decide ((x.toNat : Int) = 244) = false := by simp only [decide_eq_false_iff_not]; omega
    have d9 : decide (240 ≤ (x.toNat : Int)) = false := by simp only [decide_eq_false_iff_not]; omega
    have d10 : decide ((x.toNat : Int) ≤ 244) = true := by simp only [decide_eq_true_eq]; omega
    rw [chr] at c0
    simp only [show (x.toNat < 128) = False from by simp only [eq_iff_iff, iff_true, iff_false]; omega, show (194 ≤ x.toNat) = True from by simp only [eq_iff_iff, iff_true, iff_false]; omega, show (x.toNat ≤ 223) = True from by simp only [eq_iff_iff, iff_true, iff_false]; omega, show (x.toNat = 224) = False from by simp only [eq_iff_iff, iff_true, iff_false]; omega, show (x.toNat = 237) = False from by simp only [eq_iff_iff, iff_true, iff_false]; omega, show (224 ≤ x.toNat) = False from by simp only [eq_iff_iff, iff_true, iff_false]; omega, show (x.toNat ≤ 239) = True from by simp only [eq_iff_iff, iff_true, iff_false]; omega, show (x.toNat = 240) = False from by simp only [eq_iff_iff, iff_true, iff_false]; omega, show (x.toNat = 244) = False from by simp only [eq_iff_iff, iff_true, iff_false]; omega, show (240 ≤ x.toNat) = False from by simp only [eq_iff_iff, iff_true, iff_false]; omega, show (x.toNat ≤ 244) = True from by simp only [eq_iff_iff, iff_true, iff_false]; omega, if_true, if_false, decide_true, decide_false, Bool.true_and, Bool.false_and, Bool.and_false, Bool.false_eq_true, ite_true, ite_false] at c0
    simp only [push_cast, Nat.reduceBEq, Nat.reduceLeDiff, Nat.reduceAdd, d0, d1, d2, d3, d4, d5, d6, d7, d8, d9, d10, e1]
    refine (rin s (k + 1) 128 191 w).mono ?_
    rintro e w' ⟨rfl, rfl⟩
    rw [inR_drop, hd]
    cases hb1 : inR (x :: (toL s).drop (k + 1)) 1 128 191 with
    | false =>
      simp only [push_cast, Nat.reduceBEq, Nat.reduceLeDiff, Nat.reduceAdd, d0, d1, d2, d3, d4, d5, d6, d7, d8, d9, d10, e1, e2, e3]
      exact hR _ _ ⟨by rw [c0]; simp only [hb1, Bool.false_and, Bool.false_eq_true, if_false]; rfl, rfl⟩
    | true =>
      simp only [push_cast, Nat.reduceBEq, Nat.reduceLeDiff, Nat.reduceAdd, d0, d1, d2, d3, d4, d5, d6, d7, d8, d9, d10, e1, e2, e3]
      exact hR _ _ ⟨by rw [c0]; simp only [hb1, if_true]; rfl, rfl⟩
  · have d0 : decide ((x.toNat : Int) < 128) = false := by simp only [decide_eq_false_iff_not]; omega
    have d1 : decide (194 ≤ (x.toNat : Int)) = true := by simp only [decide_eq_true_eq]; omega
    have d2 : decide ((x.toNat : Int) ≤ 223) = false := by simp only [decide_eq_false_iff_not]; omega
    have d3 : decide ((x.toNat : Int) = 224) = true := by simp only [decide_eq_true_eq]; omega
    have d4 : decide ((x.toNat : Int) = 237) = false := by simp only [decide_eq_false_iff_not]; omega
    have d5 : decide (224 ≤ (x.toNat : Int)) = true := by simp only [decide_eq_true_eq]; omega
    have d6 : decide ((x.toNat : Int) ≤ 239) = true := by simp only [decide_eq_true_eq]; omega
    have d7 : decide ((x.toNat : Int) = 240) = false := by simp only [decide_eq_false_iff_not]; omega
    have d8 : decide ((x.toNat : Int) = 244) = false := by simp only [decide_eq_false_iff_not]; omega
    have d9 : decide (240 ≤ (x.toNat : Int)) = false := by simp only [decide_eq_false_iff_not]; omega
    have d10 : decide ((x.toNat : Int) ≤ 244) = true := by simp only [decide_eq_true_eq]; omega
    rw [chr] at c0
    simp only [show (x.toNat < 128) = False from by simp only [eq_iff_iff, iff_true, iff_false]; omega, show (194 ≤ x.toNat) = True from by simp only [eq_iff_iff, iff_true, iff_false]; omega, show (x.toNat ≤ 223) = False from by simp only [eq_iff_iff, iff_true, iff_false]; omega, show (x.toNat = 224) = True from by simp only [eq_iff_iff, iff_true, iff_false]; omega, show (x.toNat = 237) = False from by simp only [eq_iff_iff, iff_true, iff_false]; omega, show (224 ≤ x.toNat) = True from by simp only [eq_iff_iff, iff_true, iff_false]; omega, show (x.toNat ≤ 239) = True from by simp only [eq_iff_iff, iff_true, iff_false]; omega, show (x.toNat = 240) = False from by simp only [eq_iff_iff, iff_true, iff_false]; omega, show (x.toNat = 244) = False from by simp only [eq_iff_iff, iff_true, iff_false]; omega, show (240 ≤ x.toNat) = False from by simp only [eq_iff_iff, iff_true, iff_false]; omega, show (x.toNat ≤ 244) = True from by simp only [eq_iff_iff, iff_true, iff_false]; omega, if_true, if_false, decide_true, decide_false, Bool.true_and, Bool.false_and, Bool.and_false, Bool.false_eq_true, ite_true, ite_false] at c0
    simp only [push_cast, Nat.reduceBEq, Nat.reduceLeDiff, Nat.reduceAdd, d0, d1, d2, d3, d4, d5, d6, d7, d8, d9, d10, e1]
    refine (rin s (k + 1) 160 191 w).mono ?_
    rintro e w' ⟨rfl, rfl⟩
    rw [inR_drop, hd]
    cases hb1 : inR (x :: (toL s).drop (k + 1)) 1 160 191 with
    | false =>
      simp only [push_cast, Nat.reduceBEq, Nat.reduceLeDiff, Nat.reduceAdd, d0, d1, d2, d3, d4, d5, d6, d7, d8, d9, d10, e1, e2, e3]
      exact hR _ _ ⟨by rw [c0]; simp only [hb1, Bool.false_and, Bool.false_eq_true, if_false]; rfl, rfl⟩
    | true =>
      simp only [push_cast, Nat.reduceBEq, Nat.reduceLeDiff, Nat.reduceAdd, d0, d1, d2, d3, d4, d5, d6, d7, d8, d9, d10, e1, e2, e3]
      refine (rin s (k + 2) 128 191 w).mono ?_
      rintro e w' ⟨rfl, rfl⟩
      rw [inR_drop, hd]
      cases hb2 : inR (x :: (toL s).drop (k + 1)) 2 128 191 with
      | false =>
        simp only [push_cast, Nat.reduceBEq, Nat.reduceLeDiff, Nat.reduceAdd, d0, d1, d2, d3, d4, d5, d6, d7, d8, d9, d10, e1, e2, e3]
        exact hR _ _ ⟨by rw [c0]; simp only [hb1, hb2, Bool.and_false, Bool.false_and, Bool.false_eq_true, if_false]; rfl, rfl⟩
      | true =>
        simp only [push_cast, Nat.reduceBEq, Nat.reduceLeDiff, Nat.reduceAdd, d0, d1, d2, d3, d4, d5, d6, d7, d8, d9, d10, e1, e2, e3]
        exact hR _ _ ⟨by rw [c0]; simp only [hb1, hb2, Bool.and_self, if_true]; rfl, rfl⟩
  · have d0 : decide ((x.toNat : Int) < 128) = false := by simp only [decide_eq_false_iff_not]; omega
    have d1 : decide (194 ≤ (x.toNat : Int)) = true := by simp only [decide_eq_true_eq]; omega
    have d2 : decide ((x.toNat : Int) ≤ 223) = false := by simp only [decide_eq_false_iff_not]; omega
    have d3 : decide ((x.toNat : Int) = 224) = false := by simp only [decide_eq_false_iff_not]; omega
    have d4 : decide ((x.toNat : Int) = 237) = true := by simp only [decide_eq_true_eq]; omega
    have d5 : decide (224 ≤ (x.toNat : Int)) = true := by simp only [decide_eq_true_eq]; omega
    have d6 : decide ((x.toNat : Int) ≤ 239) = true := by simp only [decide_eq_true_eq]; omega
    have d7 : decide ((x.toNat : Int) = 240) = false := by simp only [decide_eq_false_iff_not]; omega
    have d8 : decide ((x.toNat : Int) = 244) = false := by simp only [decide_eq_false_iff_not]; omega
    have d9 : decide (240 ≤ (x.toNat : Int)) = false := by simp only [decide_eq_false_iff_not]; omega
    have d10 : decide ((x.toNat : Int) ≤ 244) = true := by simp only [decide_eq_true_eq]; omega
    rw [chr] at c0
    simp only [show (x.toNat < 128) = False from by simp only [eq_iff_iff, iff_true, iff_false]; omega, show (194 ≤ x.toNat) = True from by simp only [eq_iff_iff, iff_true, iff_false]; omega, show (x.toNat ≤ 223) = False from by simp only [eq_iff_iff, iff_true, iff_false]; omega, show (x.toNat = 224) = False from by simp only [eq_iff_iff, iff_true, iff_false]; omega, show (x.toNat = 237) = True from by simp only [eq_iff_iff, iff_true, iff_false]; omega, show (224 ≤ x.toNat) = True from by simp only [eq_iff_iff, iff_true, iff_false]; omega, show (x.toNat ≤ 239) = True from by simp only [eq_iff_iff, iff_true, iff_false]; omega, show (x.toNat = 240) = False from by simp only [eq_iff_iff, iff_true, iff_false]; omega, show (x.toNat = 244) = False from by simp only [eq_iff_iff, iff_true, iff_false]; omega, show (240 ≤ x.toNat) = False from by simp only [eq_iff_iff, iff_true, iff_false]; omega, show (x.toNat ≤ 244) = True from by simp only [eq_iff_iff, iff_true, iff_false]; omega, if_true, if_false, decide_true, decide_false, Bool.true_and, Bool.false_and, Bool.and_false, Bool.false_eq_true, ite_true, ite_false] at c0
    simp only [push_cast, Nat.reduceBEq, Nat.reduceLeDiff, Nat.reduceAdd, d0, d1, d2, d3, d4, d5, d6, d7, d8, d9, d10, e1]
    refine (rin s (k + 1) 128 159 w).mono ?_
    rintro e w' ⟨rfl, rfl⟩
    rw [inR_drop, hd]
    cases hb1 : inR (x :: (toL s).drop (k + 1)) 1 128 159 with
    | false =>
      simp only [push_cast, Nat.reduceBEq, Nat.reduceLeDiff, Nat.reduceAdd, d0, d1, d2, d3, d4, d5, d6, d7, d8, d9, d10, e1, e2, e3]
      exact hR _ _ ⟨by rw [c0]; simp only [hb1, Bool.false_and, Bool.false_eq_true, if_false]; rfl, rfl⟩
    | true =>
      simp only [push_cast, Nat.reduceBEq, Nat.reduceLeDiff, Nat.reduceAdd, d0, d1, d2, d3, d4, d5, d6, d7, d8, d9, d10, e1, e2, e3]
      refine (rin s (k + 2) 128 191 w).mono ?_
      rintro e w' ⟨rfl, rfl⟩
      rw [inR_drop, hd]
      cases hb2 : inR (x :: (toL s).drop (k + 1)) 2 128 191 with
      | false =>
        simp only [push_cast, Nat.reduceBEq, Nat.reduceLeDiff, Nat.reduceAdd, d0, d1, d2, d3, d4, d5, d6, d7, d8, d9, d10, e1, e2, e3]
        exact hR _ _ ⟨by rw [c0]; simp only [hb1, hb2, Bool.and_false, Bool.false_and, Bool.false_eq_true, if_false]; rfl, rfl⟩
      | true =>
        simp only [push_cast, Nat.reduceBEq, Nat.reduceLeDiff, Nat.reduceAdd, d0, d1, d2, d3, d4, d5, d6, d7, d8, d9, d10, e1, e2, e3]
        exact hR _ _ ⟨by rw [c0]; simp only [hb1, hb2, Bool.and_self, if_true]; rfl, rfl⟩
  · have d0 : decide ((x.toNat : Int) < 128) = false := by simp only [decide_eq_false_iff_not]; omega
    have d1 : decide (194 ≤ (x.toNat : Int)) = true := by simp only [decide_eq_true_eq]; omega
    have d2 : decide ((x.toNat : Int) ≤ 223) = false := by simp only [decide_eq_false_iff_not]; omega
    have d3 : decide ((x.toNat : Int) = 224) = false := by simp only [decide_eq_false_iff_not]; omega
    have d4 : decide ((x.toNat : Int) = 237) = false := by simp only [decide_eq_false_iff_not]; omega
    have d5 : decide (224 ≤ (x.toNat : Int)) = true := by simp only [decide_eq_true_eq]; omega
    have d6 : decide ((x.toNat : Int) ≤ 239) = true := by simp only [decide_eq_true_eq]; omega
    have d7 : decide ((x.toNat : Int) = 240) = false := by simp only [decide_eq_false_iff_not]; omega
    have d8 : decide ((x.toNat : Int) = 244) = false := by simp only [decide_eq_false_iff_not]; omega
    have d9 : decide (240 ≤ (x.toNat : Int)) = false := by simp only [decide_eq_false_iff_not]; omega
    have d10 : decide ((x.toNat : Int) ≤ 244) = true := by simp only [decide_eq_true_eq]; omega
    rw [chr] at c0
    simp only [show (x.toNat < 128) = False from by simp only [eq_iff_iff, iff_true, iff_false]; omega, show (194 ≤ x.toNat) = True from by simp only [eq_iff_iff, iff_true, iff_false]; omega, show (x.toNat ≤ 223) = False from by simp only [eq_iff_iff, iff_true, iff_false]; omega, show (x.toNat = 224) = False from by simp only [eq_iff_iff, iff_true, iff_false]; omega, show (x.toNat = 237) = False from by simp only [eq_iff_iff, iff_true, iff_false]; omega, show (224 ≤ x.toNat) = True from by simp only [eq_iff_iff, iff_true, iff_false]; omega, show (x.toNat ≤ 239) = True from by simp only [eq_iff_iff, iff_true, iff_false]; omega, show (x.toNat = 240) = False from by simp only [eq_iff_iff, iff_true, iff_false]; omega, show (x.toNat = 244) = False from by simp only [eq_iff_iff, iff_true, iff_false]; omega, show (240 ≤ x.toNat) = False from by simp only [eq_iff_iff, iff_true, iff_false]; omega, show (x.toNat ≤ 244) = True from by simp only [eq_iff_iff, iff_true, iff_false]; omega, if_true, if_false, decide_true, decide_false, Bool.true_and, Bool.false_and, Bool.and_false, Bool.false_eq_true, ite_true, ite_false] at c0
    simp only [push_cast, Nat.reduceBEq, Nat.reduceLeDiff, Nat.reduceAdd, d0, d1, d2, d3, d4, d5, d6, d7, d8, d9, d10, e1]
    refine (rin s (k + 1) 128 191 w).mono ?_
    rintro e w' ⟨rfl, rfl⟩
    rw [inR_drop, hd]
    cases hb1 : inR (x :: (toL s).drop (k + 1)) 1 128 191 with
    | false =>
      simp only [push_cast, Nat.reduceBEq, Nat.reduceLeDiff, Nat.reduceAdd, d0, d1, d2, d3, d4, d5, d6, d7, d8, d9, d10, e1, e2, e3]
      exact hR _ _ ⟨by rw [c0]; simp only [hb1, Bool.false_and, Bool.false_eq_true, if_false]; rfl, rfl⟩
    | true =>
      simp only [push_cast, Nat.reduceBEq, Nat.reduceLeDiff, Nat.reduceAdd, d0, d1, d2, d3, d4, d5, d6, d7, d8, d9, d10, e1, e2, e3]
      refine (rin s (k + 2) 128 191 w).mono ?_
      rintro e w' ⟨rfl, rfl⟩
      rw [inR_drop, hd]
      cases hb2 : inR (x :: (toL s).drop (k + 1)) 2 128 191 with
      | false =>
        simp only [push_cast, Nat.reduceBEq, Nat.reduceLeDiff, Nat.reduceAdd, d0, d1, d2, d3, d4, d5, d6, d7, d8, d9, d10, e1, e2, e3]
        exact hR _ _ ⟨by rw [c0]; simp only [hb1, hb2, Bool.and_false, Bool.false_and, Bool.false_eq_true, if_false]; rfl, rfl⟩
      | true =>
        simp only [push_cast, Nat.reduceBEq, Nat.reduceLeDiff, Nat.reduceAdd, d0, d1, d2, d3, d4, d5, d6, d7, d8, d9, d10, e1, e2, e3]
        exact hR _ _ ⟨by rw [c0]; simp only [hb1, hb2, Bool.and_self, if_true]; rfl, rfl⟩
  · have d0 : decide ((x.toNat : Int) < 128) = false := by simp only [decide_eq_false_iff_not]; omega
    have d1 : decide (194 ≤ (x.toNat : Int)) = true := by simp only [decide_eq_true_eq]; omega
    have d2 : decide ((x.toNat : Int) ≤ 223) = false := by simp only [decide_eq_false_iff_not]; omega
    have d3 : decide ((x.toNat : Int) = 224) = false := by simp only [decide_eq_false_iff_not]; omega
    have d4 : decide ((x.toNat : Int) = 237) = false := by simp only [decide_eq_false_iff_not]; omega
    have d5 : decide (224 ≤ (x.toNat : Int)) = true := by simp only [decide_eq_true_eq]; omega
    have d6 : decide ((x.toNat : Int) ≤ 239) = false := by simp only [decide_eq_false_iff_not]; omega
    have d7 : decide ((x.toNat : Int) = 240) = true := by simp only [decide_eq_true_eq]; omega
    have d8 : decide ((x.toNat : Int) = 244) = false := by simp only [decide_eq_false_iff_not]; omega
    have d9 : decide (240 ≤ (x.toNat : Int)) = true := by simp only [decide_eq_true_eq]; omega
    have d10 : decide ((x.toNat : Int) ≤ 244) = true := by simp only [decide_eq_true_eq]; omega
    rw [chr] at c0
    simp only [show (x.toNat < 128) = False from by simp only [eq_iff_iff, iff_true, iff_false]; omega, show (194 ≤ x.toNat) = True from by simp only [eq_iff_iff, iff_true, iff_false]; omega, show (x.toNat ≤ 223) = False from by simp only [eq_iff_iff, iff_true, iff_false]; omega, show (x.toNat = 224) = False from by simp only [eq_iff_iff, iff_true, iff_false]; omega, show (x.toNat = 237) = False from by simp only [eq_iff_iff, iff_true, iff_false]; omega, show (224 ≤ x.toNat) = True from by simp only [eq_iff_iff, iff_true, iff_false]; omega, show (x.toNat ≤ 239) = False from by simp only [eq_iff_iff, iff_true, iff_false]; omega, show (x.toNat = 240) = True from by simp only [eq_iff_iff, iff_true, iff_false]; omega, show (x.toNat = 244) = False from by simp only [eq_iff_iff, iff_true, iff_false]; omega, show (240 ≤ x.toNat) = True from by simp only [eq_iff_iff, iff_true, iff_false]; omega, show (x.toNat ≤ 244) = True from by simp only [eq_iff_iff, iff_true, iff_false]; omega, if_true, if_false, decide_true, decide_false, Bool.true_and, Bool.false_and, Bool.and_false, Bool.false_eq_true, ite_true, ite_false] at c0
    simp only [push_cast, Nat.reduceBEq, Nat.reduceLeDiff, Nat.reduceAdd, d0, d1, d2, d3, d4, d5, d6, d7, d8, d9, d10, e1]
    refine (rin s (k + 1) 144 191 w).mono ?_
    rintro e w' ⟨rfl, rfl⟩
    rw [inR_drop, hd]
    cases hb1 : inR (x :: (toL s).drop (k + 1)) 1 144 191 with
    | false =>
      simp only [push_cast, Nat.reduceBEq, Nat.reduceLeDiff, Nat.reduceAdd, d0, d1, d2, d3, d4, d5, d6, d7, d8, d9, d10, e1, e2, e3]
      exact hR _ _ ⟨by rw [c0]; simp only [hb1, Bool.false_and, Bool.false_eq_true, if_false]; rfl, rfl⟩
    | true =>
      simp only [push_cast, Nat.reduceBEq, Nat.reduceLeDiff, Nat.reduceAdd, d0, d1, d2, d3, d4, d5, d6, d7, d8, d9, d10, e1, e2, e3]
      refine (rin s (k + 2) 128 191 w).mono ?_
      rintro e w' ⟨rfl, rfl⟩
      rw [inR_drop, hd]
      cases hb2 : inR (x :: (toL s).drop (k + 1)) 2 128 191 with
      | false =>
        simp only [push_cast, Nat.reduceBEq, Nat.reduceLeDiff, Nat.reduceAdd, d0, d1, d2, d3, d4, d5, d6, d7, d8, d9, d10, e1, e2, e3]
        exact hR _ _ ⟨by rw [c0]; simp only [hb1, hb2, Bool.and_false, Bool.false_and, Bool.false_eq_true, if_false]; rfl, rfl⟩
      | true =>
        simp only [push_cast, Nat.reduceBEq, Nat.reduceLeDiff, Nat.reduceAdd, d0, d1, d2, d3, d4, d5, d6, d7, d8, d9, d10, e1, e2, e3]
        refine (rin s (k + 3) 128 191 w).mono ?_
        rintro e w' ⟨rfl, rfl⟩
        rw [inR_drop, hd]
        cases hb3 : inR (x :: (toL s).drop (k + 1)) 3 128 191 with
        | false =>
          simp only [push_cast, Nat.reduceBEq, Nat.reduceLeDiff, Nat.reduceAdd, d0, d1, d2, d3, d4, d5, d6, d7, d8, d9, d10, e1, e2, e3]
          exact hR _ _ ⟨by rw [c0]; simp only [hb1, hb2, hb3, Bool.and_false, Bool.false_eq_true, if_false]; rfl, rfl⟩
        | true =>
          simp only [push_cast, Nat.reduceBEq, Nat.reduceLeDiff, Nat.reduceAdd, d0, d1, d2, d3, d4, d5, d6, d7, d8, d9, d10, e1, e2, e3]
          exact hR _ _ ⟨by rw [c0]; simp only [hb1, hb2, hb3, Bool.and_self, if_true]; rfl, rfl⟩
  · have d0 : decide ((x.toNat : Int) < 128) = false := by simp only [decide_eq_false_iff_not]; omega
    have d1 : decide (194 ≤ (x.toNat : Int)) = true := by simp only [decide_eq_true_eq]; omega
    have d2 : decide ((x.toNat : Int) ≤ 223) = false := by simp only [decide_eq_false_iff_not]; omega
    have d3 : decide ((x.toNat : Int) = 224) = false := by simp only [decide_eq_false_iff_not]; omega
    have d4 : decide ((x.toNat : Int) = 237) = false := by simp only [decide_eq_false_iff_not]; omega
    have d5 : decide (224 ≤ (x.toNat : Int)) = true := by simp only [decide_eq_true_eq]; omega
    have d6 : decide ((x.toNat : Int) ≤ 239) = false := by simp only [decide_eq_false_iff_not]; omega
    have d7 : decide ((x.toNat : Int) = 240) = false := by simp only [decide_eq_false_iff_not]; omega
    have d8 : decide ((x.toNat : Int) = 244) = true := by simp only [decide_eq_true_eq]; omega
    have d9 : decide (240 ≤ (x.toNat : Int)) = true := by simp only [decide_eq_true_eq]; omega
    have d10 : decide ((x.toNat : Int) ≤ 244) = true := by simp only [decide_eq_true_eq]; omega
    rw [chr] at c0
    simp only [show (x.toNat < 128) = False from by simp only [eq_iff_iff, iff_true, iff_false]; omega, show (194 ≤ x.toNat) = True from by simp only [eq_iff_iff, iff_true, iff_false]; omega, show (x.toNat ≤ 223) = False from by simp only [eq_iff_iff, iff_true, iff_false]; omega, show (x.toNat = 224) = False from by simp only [eq_iff_iff, iff_true, iff_false]; omega, show (x.toNat = 237) = False from by simp only [eq_iff_iff, iff_true, iff_false]; omega, show (224 ≤ x.toNat) = True from by simp only [eq_iff_iff, iff_true, iff_false]; omega, show (x.toNat ≤ 239) = False from by simp only [eq_iff_iff, iff_true, iff_false]; omega, show (x.toNat = 240) = False from by simp only [eq_iff_iff, iff_true, iff_false]; omega, show (x.toNat = 244) = True from by simp only [eq_iff_iff, iff_true, iff_false]; omega, show (240 ≤ x.toNat) = True from by simp only [eq_iff_iff, iff_true, iff_false]; omega, show (x.toNat ≤ 244) = True from by simp only [eq_iff_iff, iff_true, iff_false]; omega, if_true, if_false, decide_true, decide_false, Bool.true_and, Bool.false_and, Bool.and_false, Bool.false_eq_true, ite_true, ite_false] at c0
    simp only [push_cast, Nat.reduceBEq, Nat.reduceLeDiff, Nat.reduceAdd, d0, d1, d2, d3, d4, d5, d6, d7, d8, d9, d10, e1]
    refine (rin s (k + 1) 128 143 w).mono ?_
    rintro e w' ⟨rfl, rfl⟩
    rw [inR_drop, hd]
    cases hb1 : inR (x :: (toL s).drop (k + 1)) 1 128 143 with
    | false =>
      simp only [push_cast, Nat.reduceBEq, Nat.reduceLeDiff, Nat.reduceAdd, d0, d1, d2, d3, d4, d5, d6, d7, d8, d9, d10, e1, e2, e3]
      exact hR _ _ ⟨by rw [c0]; simp only [hb1, Bool.false_and, Bool.false_eq_true, if_false]; rfl, rfl⟩
    | true =>
      simp only [push_cast, Nat.reduceBEq, Nat.reduceLeDiff, Nat.reduceAdd, d0, d1, d2, d3, d4, d5, d6, d7, d8, d9, d10, e1, e2, e3]
      refine (rin s (k + 2) 128 191 w).mono ?_
      rintro e w' ⟨rfl, rfl⟩
      rw [inR_drop, hd]
      cases hb2 : inR (x :: (toL s).drop (k + 1)) 2 128 191 with
      | false =>
        simp only [push_cast, Nat.reduceBEq, Nat.reduceLeDiff, Nat.reduceAdd, d0, d1, d2, d3, d4, d5, d6, d7, d8, d9, d10, e1, e2, e3]
        exact hR _ _ ⟨by rw [c0]; simp only [hb1, hb2, Bool.and_false, Bool.false_and, Bool.false_eq_true, if_false]; rfl, rfl⟩
      | true =>
        simp only [push_cast, Nat.reduceBEq, Nat.reduceLeDiff, Nat.reduceAdd, d0, d1, d2, d3, d4, d5, d6, d7, d8, d9, d10, e1, e2, e3]
        refine (rin s (k + 3) 128 191 w).mono ?_
        rintro e w' ⟨rfl, rfl⟩
        rw [inR_drop, hd]
        cases hb3 : inR (x :: (toL s).drop (k + 1)) 3 128 191 with
        | false =>
          simp only [push_cast, Nat.reduceBEq, Nat.reduceLeDiff, Nat.reduceAdd, d0, d1, d2, d3, d4, d5, d6, d7, d8, d9, d10, e1, e2, e3]
          exact hR _ _ ⟨by rw [c0]; simp only [hb1, hb2, hb3, Bool.and_false, Bool.false_eq_true, if_false]; rfl, rfl⟩
        | true =>
          simp only [push_cast, Nat.reduceBEq, Nat.reduceLeDiff, Nat.reduceAdd, d0, d1, d2, d3, d4, d5, d6, d7, d8, d9, d10, e1, e2, e3]
          exact hR _ _ ⟨by rw [c0]; simp only [hb1, hb2, hb3, Bool.and_self, if_true]; rfl, rfl⟩
  · have d0 : decide ((x.toNat : Int) < 128) = false := by simp only [decide_eq_false_iff_not]; omega
    have d1 : decide (194 ≤ (x.toNat : Int)) = true := by simp only [decide_eq_true_eq]; omega
    have d2 : decide ((x.toNat : Int) ≤ 223) = false := by simp only [decide_eq_false_iff_not]; omega
    have d3 : decide ((x.toNat : Int) = 224) = false := by simp only [decide_eq_false_iff_not]; omega
    have d4 : decide ((x.toNat : Int) = 237) = false := by simp only [decide_eq_false_iff_not]; omega
    have d5 : decide (224 ≤ (x.toNat : Int)) = true := by simp only [decide_eq_true_eq]; omega
    have d6 : decide ((x.toNat : Int) ≤ 239) = false := by simp only [decide_eq_false_iff_not]; omega
    have d7 : decide ((x.toNat : Int) = 240) = false := by simp only [decide_eq_false_iff_not]; omega
    have d8 : decide ((x.toNat : Int) = 244) = false := by simp only [decide_eq_false_iff_not]; omega
    have d9 : decide (240 ≤ (x.toNat : Int)) = true := by simp only [decide_eq_true_eq]; omega
    have d10 : decide ((x.toNat : Int) ≤ 244) = true := by simp only [decide_eq_true_eq]; omega
    rw [chr] at c0
    simp only [show (x.toNat < 128) = False from by simp only [eq_iff_iff, iff_true, iff_false]; omega, show (194 ≤ x.toNat) = True from by simp only [eq_iff_iff, iff_true, iff_false]; omega, show (x.toNat ≤ 223) = False from by simp only [eq_iff_iff, iff_true, iff_false]; omega, show (x.toNat = 224) = False from by simp only [eq_iff_iff, iff_true, iff_false]; omega, show (x.toNat = 237) = False from by simp only [eq_iff_iff, iff_true, iff_false]; omega, show (224 ≤ x.toNat) = True from by simp only [eq_iff_iff, iff_true, iff_false]; omega, show (x.toNat ≤ 239) = False from by simp only [eq_iff_iff, iff_true, iff_false]; omega, show (x.toNat = 240) = False from by simp only [eq_iff_iff, iff_true, iff_false]; omega, show (x.toNat = 244) = False from by simp only [eq_iff_iff, iff_true, iff_false]; omega, show (240 ≤ x.toNat) = True from by simp only [eq_iff_iff, iff_true, iff_false]; omega, show (x.toNat ≤ 244) = True from by simp only [eq_iff_iff, iff_true, iff_false]; omega, if_true, if_false, decide_true, decide_false, Bool.true_and, Bool.false_and, Bool.and_false, Bool.false_eq_true, ite_true, ite_false] at c0
    simp only [push_cast, Nat.reduceBEq, Nat.reduceLeDiff, Nat.reduceAdd, d0, d1, d2, d3, d4, d5, d6, d7, d8, d9, d10, e1]
    refine (rin s (k + 1) 128 191 w).mono ?_
    rintro e w' ⟨rfl, rfl⟩
    rw [inR_drop, hd]
    cases hb1 : inR (x :: (toL s).drop (k + 1)) 1 128 191 with
    | false =>
      simp only [push_cast, Nat.reduceBEq, Nat.reduceLeDiff, Nat.reduceAdd, d0, d1, d2, d3, d4, d5, d6, d7, d8, d9, d10, e1, e2, e3]
      exact hR _ _ ⟨by rw [c0]; simp only [hb1, Bool.false_and, Bool.false_eq_true, if_false]; rfl, rfl⟩
    | true =>
      simp only [push_cast, Nat.reduceBEq, Nat.reduceLeDiff, Nat.reduceAdd, d0, d1, d2, d3, d4, d5, d6, d7, d8, d9, d10, e1, e2, e3]
      refine (rin s (k + 2) 128 191 w).mono ?_
      rintro e w' ⟨rfl, rfl⟩
      rw [inR_drop, hd]
      cases hb2 : inR (x :: (toL s).drop (k + 1)) 2 128 191 with
      | false =>
        simp only [push_cast, Nat.reduceBEq, Nat.reduceLeDiff, Nat.reduceAdd, d0, d1, d2, d3, d4, d5, d6, d7, d8, d9, d10, e1, e2, e3]
        exact hR _ _ ⟨by rw [c0]; simp only [hb1, hb2, Bool.and_false, Bool.false_and, Bool.false_eq_true, if_false]; rfl, rfl⟩
      | true =>
        simp only [push_cast, Nat.reduceBEq, Nat.reduceLeDiff, Nat.reduceAdd, d0, d1, d2, d3, d4, d5, d6, d7, d8, d9, d10, e1, e2, e3]
        refine (rin s (k + 3) 128 191 w).mono ?_
        rintro e w' ⟨rfl, rfl⟩
        rw [inR_drop, hd]
        cases hb3 : inR (x :: (toL s).drop (k + 1)) 3 128 191 with
        | false =>
          simp only [push_cast, Nat.reduceBEq, Nat.reduceLeDiff, Nat.reduceAdd, d0, d1, d2, d3, d4, d5, d6, d7, d8, d9, d10, e1, e2, e3]
          exact hR _ _ ⟨by rw [c0]; simp only [hb1, hb2, hb3, Bool.and_false, Bool.false_eq_true, if_false]; rfl, rfl⟩
        | true =>
          simp only [push_cast, Nat.reduceBEq, Nat.reduceLeDiff, Nat.reduceAdd, d0, d1, d2, d3, d4, d5, d6, d7, d8, d9, d10, e1, e2, e3]
          exact hR _ _ ⟨by rw [c0]; simp only [hb1, hb2, hb3, Bool.and_self, if_true]; rfl, rfl⟩
  · have d0 : decide ((x.toNat : Int) < 128) = false := by simp only [decide_eq_false_iff_not]; omega
    have d1 : decide (194 ≤ (x.toNat : Int)) = true := by simp only [decide_eq_true_eq]; omega
    have d2 : decide ((x.toNat : Int) ≤ 223) = false := by simp only [decide_eq_false_iff_not]; omega
    have d3 : decide ((x.toNat : Int) = 224) = false := by simp only [decide_eq_false_iff_not]; omega
    have d4 : decide ((x.toNat : Int) = 237) = false := by simp only [decide_eq_false_iff_not]; omega
    have d5 : decide (224 ≤ (x.toNat : Int)) = true := by simp only [decide_eq_true_eq]; omega
    have d6 : decide ((x.toNat : Int) ≤ 239) = false := by simp only [decide_eq_false_iff_not]; omega
    have d7 : decide ((x.toNat : Int) = 240) = false := by simp only [decide_eq_false_iff_not]; omega
    have d8 : decide ((x.toNat : Int) = 244) = false := by simp only [decide_eq_false_iff_not]; omega
    have d9 : decide (240 ≤ (x.toNat : Int)) = true := by simp only [decide_eq_true_eq]; omega
    have d10 : decide ((x.toNat : Int) ≤ 244) = false := by simp only [decide_eq_false_iff_not]; omega
    rw [chr] at c0
    simp only [show (x.toNat < 128) = False from by simp only [eq_iff_iff, iff_true, iff_false]; omega, show (194 ≤ x.toNat) = True from by simp only [eq_iff_iff, iff_true, iff_false]; omega, show (x.toNat ≤ 223) = False from by simp only [eq_iff_iff, iff_true, iff_false]; omega, show (x.toNat = 224) = False from by simp only [eq_iff_iff, iff_true, iff_false]; omega, show (x.toNat = 237) = False from by simp only [eq_iff_iff, iff_true, iff_false]; omega, show (224 ≤ x.toNat) = True from by simp only [eq_iff_iff, iff_true, iff_false]; omega, show (x.toNat ≤ 239) = False from by simp only [eq_iff_iff, iff_true, iff_false]; omega, show (x.toNat = 240) = False from by simp only [eq_iff_iff, iff_true, iff_false]; omega, show (x.toNat = 244) = False from by simp only [eq_iff_iff, iff_true, iff_false]; omega, show (240 ≤ x.toNat) = True from by simp only [eq_iff_iff, iff_true, iff_false]; omega, show (x.toNat ≤ 244) = False from by simp only [eq_iff_iff, iff_true, iff_false]; omega, if_true, if_false, decide_true, decide_false, Bool.true_and, Bool.false_and, Bool.and_false, Bool.false_eq_true, ite_true, ite_false] at c0
    simp only [push_cast, Nat.reduceBEq, Nat.reduceLeDiff, Nat.reduceAdd, d0, d1, d2, d3, d4, d5, d6, d7, d8, d9, d10]
    exact hR _ _ ⟨by rw [c0]; rfl, rfl⟩
end Go.Proofs.YtciepffocobgpaaGreatDoor
namespace Go.Proofs.YtciepffocobgpaaGreatDoor
open Go Go.Sx Go.RowKit
set_option linter.unusedSimpArgs false
set_option linter.unusedVariables false
theorem rWrong (s : ByteArray) (hs : s.size ≤ 9223372036854775000) (w : World) : Calls Tryz.prog 21 #[.string s] w fun e w' => e = .returned (.int .i64 (wrong (toL s))) ∧ w = w' := by
  refine calls_X Tryz.func21 rfl Tryz.ntmps21 Tryz.results21 rfl rfl (by kernel_rfl) fun R hR => ?_
  simp only [push_cast, Nat.reduceBEq, Nat.reduceLeDiff, Nat.reduceAdd]
  refine law_loop [(2, 17)] (fun n h w' => ∃ k : Nat, k ≤ s.size ∧ n = s.size - k ∧ h 3 = .int .i64 k ∧ wrong (toL s) = wrongFrom (s.size - k + 1) ((toL s).drop k) k ∧ w = w') s.size ⟨0, by omega, by omega, rfl, by rw [wrong, toL_len]; rfl, rfl⟩ ?_
  rintro n h w2 ⟨k, hk, hn, h3, hw, rfl⟩ T hT
  simp only [push_cast, Nat.reduceBEq, Nat.reduceLeDiff, Nat.reduceAdd, h3]
  refine ⟨fun hc => ?_, fun hc => ?_⟩
  · simp only [decide_eq_true_eq, Int.ofNat_lt] at hc
    obtain ⟨x, r, hxr⟩ := drop_cons_of (toL s) k (by rw [toL_len]; exact hc)
    refine (rchar s k hc hs w).mono ?_
    rintro e w3 ⟨rfl, rfl⟩
    have hle := chr_le (x :: r)
    have hlr : (x :: r).length = s.size - k := by rw [← hxr, List.length_drop, toL_len]
    rw [hxr] at hw ⊢
    simp only [push_cast, Nat.reduceBEq, Nat.reduceLeDiff, Nat.reduceAdd, h3]
    refine ⟨fun h0 => hR _ _ ⟨?_, rfl⟩, fun h0 => hT (s.size - (k + chr (x :: r))) _ _ (by simp only [push_cast, Nat.reduceBEq, Nat.reduceLeDiff]) ?_ ⟨k + chr (x :: r), by omega, rfl, ?_, ?_, rfl⟩⟩
    · simp only [decide_eq_true_eq] at h0
      rw [hw, wrongFrom, if_neg (by simp), if_pos (by omega)]
    · simp only [decide_eq_false_iff_not] at h0
      omega
    · simp only [push_cast, Nat.reduceBEq, Nat.reduceLeDiff, h3]; rw [w64 (by omega) (by omega)]
    · simp only [decide_eq_false_iff_not] at h0
      rw [hw, wrongFrom, if_neg (by simp), if_neg (by omega), ← List.drop_drop, hxr]
      exact wrongFrom_fuel _ _ _ _ (by rw [List.length_drop]; omega) (by rw [List.length_drop]; omega)
  · simp only [decide_eq_false_iff_not, Int.ofNat_lt, Nat.not_lt] at hc
    refine hR _ _ ⟨?_, rfl⟩
    rw [hw, wrongFrom, if_pos (List.drop_eq_nil_of_le (by rw [toL_len]; exact hc))]
theorem rdigit (c : UInt8) (w : World) : Calls Tryz.prog 151 #[.int .u8 c.toNat] w fun e w' => e = .returned (.int .i64 (hex c)) ∧ w = w' := by
  have h256 := c.toNat_lt
  refine calls_X Tryz.func151 rfl Tryz.ntmps151 Tryz.results151 rfl rfl (by kernel_rfl) fun R hR => ?_
  simp only [push_cast, Nat.reduceBEq, Nat.reduceLeDiff, Nat.reduceAdd]
  have wu : ∀ n : Int, 0 ≤ n → n ≤ 255 → IntKind.u8.wrap n = n := fun n h1 h2 => IntWalk.u8_in _ ⟨h1, h2⟩
  refine ⟨fun h => hR _ _ ⟨?_, rfl⟩, fun h => ⟨fun h2 => hR _ _ ⟨?_, rfl⟩, fun h2 => ⟨fun h3 => hR _ _ ⟨?_, rfl⟩, fun h3 => hR _ _ ⟨?_, rfl⟩⟩⟩⟩
  · simp only [Bool.and_eq_true, decide_eq_true_eq] at h
    rw [wu _ (by omega) (by omega), w64 (by omega) (by omega), hex, if_pos (by omega)]
  · simp only [Bool.and_eq_true, decide_eq_true_eq] at h2
    rw [wu _ (by omega) (by omega), w64 (n := (c.toNat : Int) - 97) (by omega) (by omega), w64 (by omega) (by omega), hex, if_neg (by omega), if_pos (by omega)]
    congr 2; omega
  · simp only [Bool.and_eq_true, decide_eq_true_eq] at h3
    rw [wu _ (by omega) (by omega), w64 (n := (c.toNat : Int) - 65) (by omega) (by omega), w64 (by omega) (by omega), hex, if_neg (by omega), if_neg (by omega), if_pos (by omega)]
    congr 2; omega
  · simp only [Bool.and_eq_false_iff, decide_eq_false_iff_not] at h h2 h3
    rw [hex, if_neg (by omega), if_neg (by omega), if_neg (by omega)]
end Go.Proofs.YtciepffocobgpaaGreatDoor
namespace Go.Proofs.YtciepffocobgpaaGreatDoor
open Go Go.Sx Go.RowKit
set_option linter.unusedSimpArgs false
set_option linter.unusedVariables false
theorem append22 (w : World) (B : Nat) (v : Value) (bs : Bytes) (c : UInt8) (hown : w.ownsRow B 5 1 v bs.length (Lib.byteCells bs)) (hB : B ≤ w.heap.size) (hl : bs.length ≤ 1000000000) :
    ∃ v' w', Sem.run Tryz.prog (Builtin.append_ #[22, 22] 22 #[v, .slice (some ⟨w.heap.size, 0, none⟩) 1 1]) (al w [([.int .u8 c.toNat], 5)]) = .ok v' w' ∧
      (w'.ownsRow B 5 1 v' (bs ++ [c]).length (Lib.byteCells (bs ++ [c])) ∧ Below B w w') := by
  obtain ⟨i0, hi, hz0, hz1, hz2⟩ := info_parts infoB
  have hnews : ∀ (j : Nat) (u : Value), [Value.int .u8 c.toNat][j]? = some u → (al w [([.int .u8 c.toNat], 5)]).cell? ((⟨w.heap.size, 0, none⟩ : Addr).add j) = some u := by
    intro j u hj
    rcases j with _ | j
    · simp at hj; subst hj; exact al_cell0 ..
    · simp at hj
  obtain ⟨v', w', h1, h2, h3, _⟩ := run_append_own (P := Tryz.prog) (al w [([.int .u8 c.toNat], 5)]) B 22 22 5 i0 (.int .u8 0) 1 1 Tryz.underlying22 hi hz0 hz1 hz2 rfl (by decide) v bs.length (Lib.byteCells bs) (own_below hown (al_below _ _)) ⟨w.heap.size, 0, none⟩ 1 1 [.int .u8 c.toNat] rfl hnews (by simp; rfl) (by unfold maxLen; omega) (by omega) (by rw [al_size]; omega)
  · refine ⟨v', w', h1, ?_, ?_⟩
    · rw [show Lib.byteCells (bs ++ [c]) = Lib.byteCells bs ++ [.int .u8 c.toNat] from by simp [Lib.byteCells], show (bs ++ [c]).length = bs.length + 1 from by simp]; exact h2
    · refine Below.grown ((al_below w _).mono hB) h3 (by rw [al_size]; omega) ?_
      intro k hk
      rcases hown.2 with ⟨rfl, _⟩ | ⟨g, cap, cur, rfl, hBg, _⟩
      · cases hk
      · cases hk; exact hBg
theorem bytes_of_own {w : World} {B : Nat} {v : Value} {bs : Bytes} (h : w.ownsRow B 5 1 v bs.length (Lib.byteCells bs)) : BytesAt w v bs := by
  rcases h.2 with ⟨rfl, h2⟩ | ⟨g, cap, cur, rfl, h1, h2, h3, h4, h5, h6⟩
  · exact .inl ⟨none, 0, rfl, List.length_eq_zero_iff.1 h2⟩
  · refine .inr ⟨g, 0, cap, rfl, (Array.getElem?_eq_some_iff.1 h2).1, fun j p hj => ?_⟩
    have hlt := (List.getElem?_eq_some_iff.1 hj).1
    have g1 : (Lib.byteCells bs)[j]? = some (.int .u8 p.toNat) := by simp [Lib.byteCells, hj]
    rw [← h6, List.getElem?_take_of_lt (by omega)] at g1
    rw [Lib.cell_of_heap h2, ← g1]; simp
theorem qb_mul (P : Program) (C : World → Prop) (w0 : World) (k : Value → Prop) (t : TypeId) (g : Bool) (q : IntKind) (m n : Int) : aq P C w0 (.bin .mul t g) [.int q m, .int q n] k = k (.int q (q.wrap (m * n))) := by
  simp [aq, pureOK, opI, isI, ap, a2, apBin, cK]
attribute [push_cast] qb_mul
set_option maxRecDepth 20000 in
set_option maxHeartbeats 4000000 in
theorem rUnescape (s : ByteArray) (hs : s.size ≤ 1000000) (w : World) : Calls Tryz.prog 117 #[.string s] w fun e w' => e = .returned (uv (unescape (toL s))) ∧ Below w.heap.size w w' := by
  refine calls_X Tryz.func117 rfl Tryz.ntmps117 Tryz.results117 rfl rfl (by kernel_rfl) fun R hR => ?_
  simp only [push_cast, Nat.reduceBEq, Nat.reduceLeDiff, Nat.reduceAdd]
  refine law_loop [(2, 79)] (fun n h w' => ∃ (k : Nat) (out : Bytes) (v : Value), k ≤ s.size ∧ n = s.size - k ∧ h 5 = .int .i64 k ∧ h 4 = v ∧ out.length ≤ k ∧ unesc (toL s).length (toL s) = (unesc (s.size - k) ((toL s).drop k)).map (out ++ ·) ∧ w'.ownsRow w.heap.size 5 1 v out.length (Lib.byteCells out) ∧ Below w.heap.size w w') s.size ⟨0, [], _, by omega, by omega, rfl, rfl, by simp, ?_, ⟨rfl, .inl ⟨rfl, rfl⟩⟩, Below.refl _ _⟩ ?_
  · rw [toL_len]; cases h : unesc s.size (toL s) <;> simp [h]
  rintro n h w2 ⟨k, out, v, hk, hn, h5, h4, ho, hu, hown, hb⟩ T hT
  obtain ⟨A, cc, rfl, _⟩ := bytesAt_shape (bytes_of_own hown)
  simp only [push_cast, Nat.reduceBEq, Nat.reduceLeDiff, Nat.reduceAdd, h5, h4]
  refine ⟨fun hc => ?_, fun hc => ?_⟩
  · simp only [decide_eq_true_eq, Int.ofNat_lt] at hc
    have hkl : k < (toL s).length := by rw [toL_len]; exact hc
    rw [bt_get s k hkl]
    have hdrop := List.drop_eq_getElem_cons hkl
    generalize (toL s)[k] = c at hdrop
    refine ⟨⟨by omega, by omega⟩, ?_⟩
    have hf : s.size - k = (s.size - (k + 1)) + 1 := by omega
    have hsz := hb.size
    have e43 : ((c.toNat : Int) = 43) ↔ c = 43 := u8_eq c 43
    have e37 : ((c.toNat : Int) = 37) ↔ c = 37 := u8_eq c 37
    have e38 : ((c.toNat : Int) = 38) ↔ c = 38 := u8_eq c 38
    have e61 : ((c.toNat : Int) = 61) ↔ c = 61 := u8_eq c 61
    rw [hf, hdrop] at hu
    have hol : out.length ≤ 1000000 := by omega
    refine ⟨fun h1 => ?_, fun h1 => ⟨fun h2 => ?_, fun h2 => ⟨fun h3 => hR _ _ ⟨?_, hb⟩, fun h3 => ?_⟩⟩⟩
    · simp only [decide_eq_true_eq, e43] at h1
      simp only [push_cast, bsl22]
      refine getR_of (append22 w2 w.heap.size _ out 32 hown hsz (by omega)) ?_
      rintro v' w3 ⟨hown3, hb3⟩
      simp only [push_cast, Nat.reduceBEq, Nat.reduceLeDiff, Nat.reduceAdd, h5]
      refine hT (s.size - (k + 1)) _ _ (by simp only [push_cast, Nat.reduceBEq, Nat.reduceLeDiff]) (by omega) ⟨k + 1, out ++ [32], v', by omega, rfl, ?_, ?_, by simp; omega, ?_, hown3, hb.trans hb3⟩
      · simp only [push_cast, Nat.reduceBEq, Nat.reduceLeDiff]; rw [w64 (by omega) (by omega)]
      · simp only [push_cast, Nat.reduceBEq, Nat.reduceLeDiff]
      · rw [hu, unesc_cons, if_pos h1, map_app]
    · simp only [decide_eq_false_iff_not, e43] at h1
      simp only [decide_eq_true_eq, e37] at h2
      have e2 : IntKind.i64.wrap ((k : Int) + 2) = ((k + 2 : Nat) : Int) := w64 (by omega) (by omega)
      have e1 : IntKind.i64.wrap ((k : Int) + 1) = ((k + 1 : Nat) : Int) := w64 (by omega) (by omega)
      simp only [e1, e2]
      have hd1 := hdrop
      generalize hd : List.drop (k + 1) (toL s) = r at hu hdrop
      have hrl : r.length = s.size - (k + 1) := by rw [← hd, List.length_drop, toL_len]
      by_cases hl2 : s.size ≤ k + 2
      · have hq : decide ((s.size : Int) ≤ ((k + 2 : Nat) : Int)) = true := decide_eq_true (by omega)
        have hp : pairB r = none := by
          rcases r with _ | ⟨a, _ | ⟨b, r⟩⟩
          · rfl
          · rfl
          · simp at hrl; omega
        rw [hq]
        simp only [push_cast, Nat.reduceBEq, Nat.reduceLeDiff, Nat.reduceAdd, h5]
        exact hR _ _ ⟨by rw [unescape, hu, unesc_cons, if_neg h1, if_pos h2, hp]; rfl, hb⟩
      · have hq : decide ((s.size : Int) ≤ ((k + 2 : Nat) : Int)) = false := decide_eq_false (by omega)
        obtain ⟨a, b, r', rfl⟩ : ∃ a b r', r = a :: b :: r' := by
          rcases r with _ | ⟨a, _ | ⟨b, r⟩⟩
          · simp at hrl; omega
          · simp at hrl; omega
          · exact ⟨_, _, _, rfl⟩
        have ha : bt s ((k + 1 : Nat) : Int) = a.toNat := by
          rw [bt_get s (k + 1) (by rw [toL_len]; omega)]
          have := congrArg (fun l => l[0]?) hd
          simp only [List.getElem?_drop, Nat.add_zero, List.getElem?_cons_zero] at this
          rw [List.getElem?_eq_getElem (by rw [toL_len]; omega)] at this
          rw [Option.some.inj this]
        have hbb : bt s ((k + 2 : Nat) : Int) = b.toNat := by
          rw [bt_get s (k + 2) (by rw [toL_len]; omega)]
          have := congrArg (fun l => l[1]?) hd
          simp only [List.getElem?_drop, List.getElem?_cons_succ, List.getElem?_cons_zero] at this
          rw [List.getElem?_eq_getElem (by rw [toL_len]; omega)] at this
          rw [← Option.some.inj this]
        rw [hq, ha]
        simp only [push_cast, Nat.reduceBEq, Nat.reduceLeDiff, Nat.reduceAdd, h5]
        refine ⟨by omega, (rdigit a w2).mono ?_⟩
        rintro e w3 ⟨rfl, rfl⟩
        have ra := hex_range a
        have rb := hex_range b
        by_cases hxa : hex a < 0
        · have hqa : decide (hex a < 0) = true := decide_eq_true hxa
          simp only [push_cast, Nat.reduceBEq, Nat.reduceLeDiff, Nat.reduceAdd, h5, hqa, hq]
          have hp : pairB (a :: b :: r') = none := by rw [pairB, if_pos (.inl hxa)]
          exact hR _ _ ⟨by rw [unescape, hu, unesc_cons, if_neg h1, if_pos h2, hp]; rfl, hb⟩
        · have hqa : decide (hex a < 0) = false := decide_eq_false hxa
          simp only [push_cast, Nat.reduceBEq, Nat.reduceLeDiff, Nat.reduceAdd, h5, hqa, hq]
          simp only [push_cast] at e1 e2 hbb ha
          simp only [e2, hbb]
          refine ⟨by omega, (rdigit b w2).mono ?_⟩
          rintro e w3 ⟨rfl, rfl⟩
          by_cases hxb : hex b < 0
          · have hqb : decide (hex b < 0) = true := decide_eq_true hxb
            simp only [push_cast, Nat.reduceBEq, Nat.reduceLeDiff, Nat.reduceAdd, h5, hqa, hq, hqb]
            have hp : pairB (a :: b :: r') = none := by rw [pairB, if_pos (.inr hxb)]
            exact hR _ _ ⟨by rw [unescape, hu, unesc_cons, if_neg h1, if_pos h2, hp]; rfl, hb⟩
          · have hqb : decide (hex b < 0) = false := decide_eq_false hxb
            have hp : pairB (a :: b :: r') = some (UInt8.ofNat (16 * hex a + hex b).toNat) := by rw [pairB, if_neg (by omega)]
            simp only [push_cast, Nat.reduceBEq, Nat.reduceLeDiff, Nat.reduceAdd, h5, hqa, hq, hqb]
            refine law_plan (.take 0 (.take 1 (.take 2 (.take 3 (.take 4 (.take 7 (.take 8 (.take 9 (.take 10 (.alt 5 (.take 6 (.alt 11 (.take 12 (.take 13 (.alt 14 (.alt 15 (.take 16 (.done)) (.nil)) (.nil)))) (.nil))) (.nil))))))))))) (by kernel_rfl) (by kernel_rfl) (by kernel_rfl) ?_
            simp only [push_cast, Nat.reduceBEq, Nat.reduceLeDiff, Nat.reduceAdd, h5, h4, e1, e2, ha, hbb]
            refine ⟨by omega, by omega, (rdigit a w2.drew).mono ?_⟩
            rintro e w3 ⟨rfl, rfl⟩
            simp only [push_cast, Nat.reduceBEq, Nat.reduceLeDiff, Nat.reduceAdd, h5, h4]
            refine (rdigit b w2.drew).mono ?_
            rintro e w3 ⟨rfl, rfl⟩
            have hv1 : IntKind.i64.wrap (16 * hex a) = 16 * hex a := w64 (by omega) (by omega)
            have hv2 : IntKind.i64.wrap (16 * hex a + hex b) = 16 * hex a + hex b := w64 (by omega) (by omega)
            have hv3 : IntKind.u8.wrap (16 * hex a + hex b) = ((UInt8.ofNat (16 * hex a + hex b).toNat).toNat : Int) := by
              rw [show IntKind.u8.wrap (16 * hex a + hex b) = 16 * hex a + hex b from IntWalk.u8_in _ ⟨by omega, by omega⟩]
              have : (16 * hex a + hex b).toNat < 256 := by omega
              rw [UInt8.toNat_ofNat_of_lt' this]; omega
            simp only [push_cast, Nat.reduceBEq, Nat.reduceLeDiff, Nat.reduceAdd, h5, h4, hv1, hv2, hv3, bsl22]
            have hownd : w2.drew.ownsRow w.heap.size 5 1 (.slice A out.length cc) out.length (Lib.byteCells out) := own_below hown (Below.refl _ _).drew
            refine getR_of (append22 w2.drew w.heap.size _ out (UInt8.ofNat (16 * hex a + hex b).toNat) hownd hsz (by omega)) ?_
            rintro v' w3 ⟨hown3, hb3⟩
            simp only [push_cast, Nat.reduceBEq, Nat.reduceLeDiff, Nat.reduceAdd, h5, h4]
            refine hT (s.size - (k + 3)) _ _ (by simp only [push_cast, Nat.reduceBEq, Nat.reduceLeDiff]) (by omega) ⟨k + 3, out ++ [UInt8.ofNat (16 * hex a + hex b).toNat], v', by omega, rfl, ?_, ?_, by simp; omega, ?_, hown3, hb.drew.trans hb3⟩
            · simp only [push_cast, Nat.reduceBEq, Nat.reduceLeDiff]; rw [w64 (n := (k : Int) + 2) (by omega) (by omega), w64 (by omega) (by omega)]; congr 1 <;> omega
            · simp only [push_cast, Nat.reduceBEq, Nat.reduceLeDiff]
            · have hd3 : List.drop (k + 3) (toL s) = (a :: b :: r').drop 2 := by rw [show k + 3 = (k + 1) + 2 from rfl, ← List.drop_drop, hd]
              rw [hu, unesc_cons, if_neg h1, if_pos h2, hp, hd3, unesc_fuel (s.size - (k + 1)) (s.size - (k + 3)) ((a :: b :: r').drop 2) (by rw [List.length_drop]; omega) (by rw [List.length_drop]; omega)]
              exact map_app _ _ _
    · simp only [decide_eq_false_iff_not, e43] at h1
      simp only [decide_eq_false_iff_not, e37] at h2
      simp only [Bool.or_eq_true, decide_eq_true_eq, e38, e61] at h3
      rw [unescape, hu, unesc_cons, if_neg h1, if_neg h2, if_pos (by rcases h3 with ((h3 | h3) | h3) | h3 <;> first | (exact .inl (by omega)) | (exact .inr (.inl (by omega))) | exact .inr (.inr (.inl h3)) | exact .inr (.inr (.inr h3)))]; rfl
    · simp only [decide_eq_false_iff_not, e43] at h1
      simp only [decide_eq_false_iff_not, e37] at h2
      simp only [Bool.or_eq_false_iff, decide_eq_false_iff_not, e38, e61] at h3
      simp only [push_cast, bsl22]
      refine getR_of (append22 w2 w.heap.size _ out c hown hsz (by omega)) ?_
      rintro v' w3 ⟨hown3, hb3⟩
      simp only [push_cast, Nat.reduceBEq, Nat.reduceLeDiff, Nat.reduceAdd, h5]
      refine hT (s.size - (k + 1)) _ _ (by simp only [push_cast, Nat.reduceBEq, Nat.reduceLeDiff]) (by omega) ⟨k + 1, out ++ [c], v', by omega, rfl, ?_, ?_, by simp; omega, ?_, hown3, hb.trans hb3⟩
      · simp only [push_cast, Nat.reduceBEq, Nat.reduceLeDiff]; rw [w64 (by omega) (by omega)]
      · simp only [push_cast, Nat.reduceBEq, Nat.reduceLeDiff]
      · rw [hu, unesc_cons, if_neg h1, if_neg h2, if_neg (by rintro (h | h | h | h) <;> first | omega | exact h3.1.2 h | exact h3.2 h), map_app]
  · simp only [decide_eq_false_iff_not, Int.ofNat_lt, Nat.not_lt] at hc
    have hk0 : k = s.size := by omega
    rw [hk0, Nat.sub_self, ← toL_len s, List.drop_length, unesc_nil] at hu
    have hu2 : unesc (toL s).length (toL s) = some out := by rw [hu]; simp
    simp only [push_cast, conv_back (bytes_of_own hown)]
    refine (rWrong (mkS out) (by rw [size_mkS]; omega) w2).mono ?_
    rintro e w4 ⟨rfl, rfl⟩
    rw [toL_mkS]
    simp only [push_cast, Nat.reduceBEq, Nat.reduceLeDiff, Nat.reduceAdd, h4, conv_back (bytes_of_own hown)]
    refine ⟨fun ht => hR _ _ ⟨?_, hb⟩, fun ht => hR _ _ ⟨?_, hb⟩⟩
    · simp only [decide_eq_true_eq] at ht
      simp only [unescape, hu2, told, show ¬ wrong out < 0 by omega, decide_false, uv, Bool.false_eq_true, if_false]
    · simp only [decide_eq_false_iff_not, Int.not_le] at ht
      simp only [unescape, hu2, told, decide_eq_true ht, uv, if_true]
end Go.Proofs.YtciepffocobgpaaGreatDoor
namespace Go.Proofs.YtciepffocobgpaaGreatDoor
open Go Go.Sx Go.RowKit
set_option linter.unusedSimpArgs false
set_option linter.unusedVariables false
def strCs (l : List Bytes) : List Value := l.map fun x => .string (mkS x)
def StrsAt (w : World) (v : Value) (l : List Bytes) : Prop :=
  (∃ c, v = .slice none 0 c ∧ l = []) ∨ ∃ b o c, v = .slice (some ⟨b, o, none⟩) l.length c ∧ b < w.heap.size ∧ ∀ j x, l[j]? = some x → w.cell? ⟨b, o + j, none⟩ = some (.string (mkS x))
theorem strsAt_below {w w' : World} {v : Value} {l : List Bytes} (h : StrsAt w v l) (hb : Below w.heap.size w w') : StrsAt w' v l := by
  rcases h with h | ⟨b, o, c, h1, h2, h3⟩
  · exact .inl h
  · exact .inr ⟨b, o, c, h1, Nat.lt_of_lt_of_le h2 hb.size, fun j p hj => (hb.cell (p := ⟨b, _, none⟩) h2).trans (h3 j p hj)⟩
theorem strsAt_shape {w : World} {v : Value} {l : List Bytes} (h : StrsAt w v l) : ∃ A c, v = .slice A l.length c ∧ (∀ j p, l[j]? = some p → ∃ b o, A = some ⟨b, o, none⟩ ∧ b < w.heap.size ∧ w.cell? ⟨b, o + j, none⟩ = some (.string (mkS p))) := by
  rcases h with ⟨c, h1, h2⟩ | ⟨b, o, c, h1, h2, h3⟩
  · subst h2
    exact ⟨none, c, h1, fun j p hj => by simp at hj⟩
  · exact ⟨_, c, h1, fun j p hj => ⟨b, o, rfl, h2, h3 j p hj⟩⟩
theorem strs_of_own {w : World} {B : Nat} {v : Value} {l : List Bytes} (h : w.ownsRow B 9 1 v l.length (strCs l)) : StrsAt w v l := by
  rcases h.2 with ⟨rfl, h2⟩ | ⟨g, cap, cur, rfl, h1, h2, h3, h4, h5, h6⟩
  · exact .inl ⟨0, rfl, List.length_eq_zero_iff.1 h2⟩
  · refine .inr ⟨g, 0, cap, rfl, (Array.getElem?_eq_some_iff.1 h2).1, fun j p hj => ?_⟩
    have hlt := (List.getElem?_eq_some_iff.1 hj).1
    have g1 : (strCs l)[j]? = some (.string (mkS p)) := by simp [strCs, hj]
    rw [← h6, List.getElem?_take_of_lt (by omega)] at g1
    rw [Lib.cell_of_heap h2, ← g1]; simp
theorem info9 : (Tryz.prog.info? 9).map (fun i => (i.zero, i.size, i.bytes)) = some (some (.string ⟨#[]⟩), 1, 16) := by kernel_rfl
theorem bsl34 (a : ByteArray) (w : World) : Sem.run Tryz.prog (Instr.buildSlice 34 1 #[(0, .string a)]) w = .ok (.slice (some ⟨w.heap.size, 0, none⟩) 1 1) (w.alloc (.cells #[.string a] 9)) := by kernel_rfl
theorem append34 (w : World) (B : Nat) (v : Value) (l : List Bytes) (x : Bytes) (hown : w.ownsRow B 9 1 v l.length (strCs l)) (hB : B ≤ w.heap.size) (hl : l.length ≤ 1000000000) :
    ∃ v' w', Sem.run Tryz.prog (Builtin.append_ #[34, 34] 34 #[v, .slice (some ⟨w.heap.size, 0, none⟩) 1 1]) (al w [([.string (mkS x)], 9)]) = .ok v' w' ∧
      (w'.ownsRow B 9 1 v' (l ++ [x]).length (strCs (l ++ [x])) ∧ Below B w w') := by
  obtain ⟨i0, hi, hz0, hz1, hz2⟩ := info_parts info9
  have hnews : ∀ (j : Nat) (u : Value), [Value.string (mkS x)][j]? = some u → (al w [([.string (mkS x)], 9)]).cell? ((⟨w.heap.size, 0, none⟩ : Addr).add j) = some u := by
    intro j u hj
    rcases j with _ | j
    · simp at hj; subst hj; exact al_cell0 ..
    · simp at hj
  obtain ⟨v', w', h1, h2, h3, _⟩ := run_append_own (P := Tryz.prog) (al w [([.string (mkS x)], 9)]) B 34 34 9 i0 (.string ⟨#[]⟩) 1 16 Tryz.underlying34 hi hz0 hz1 hz2 rfl (by decide) v l.length (strCs l) (own_below hown (al_below _ _)) ⟨w.heap.size, 0, none⟩ 1 1 [.string (mkS x)] rfl hnews (by simp; rfl) (by unfold maxLen; omega) (by omega) (by rw [al_size]; omega)
  · refine ⟨v', w', h1, ?_, ?_⟩
    · rw [show strCs (l ++ [x]) = strCs l ++ [.string (mkS x)] from by simp [strCs], show (l ++ [x]).length = l.length + 1 from by simp]; exact h2
    · refine Below.grown ((al_below w _).mono hB) h3 (by rw [al_size]; omega) ?_
      intro k hk
      rcases hown.2 with ⟨rfl, _⟩ | ⟨g, cap, cur, rfl, hBg, _⟩
      · cases hk
      · cases hk; exact hBg
/-- Parts, with the last one open. -/
def partsA (c : UInt8) (done : List Bytes) (last rest : Bytes) : List Bytes := match parts c rest with | p :: ps => done ++ (last ++ p) :: ps | [] => done
theorem partsA_step (c : UInt8) (done : List Bytes) (last : Bytes) (x : UInt8) (r : Bytes) : partsA c done last (x :: r) = if x = c then partsA c (done ++ [last]) [] r else partsA c done (last ++ [x]) r := by
  unfold partsA
  rw [parts]
  by_cases h : x = c
  · rw [if_pos h, if_pos h]
    rcases hp : parts c r with _ | ⟨p, ps⟩
    · exact absurd hp (parts_ne _ _)
    · simp
  · rw [if_neg h, if_neg h]
    rcases hp : parts c r with _ | ⟨p, ps⟩
    · exact absurd hp (parts_ne _ _)
    · simp
theorem rParts (s : ByteArray) (c : UInt8) (hs : s.size ≤ 1000000) (w : World) :
    Calls Tryz.prog 53 #[.string s, .int .u8 c.toNat] w fun e w' => (∃ v, e = .returned v ∧ w'.ownsRow w.heap.size 9 1 v (parts c (toL s)).length (strCs (parts c (toL s)))) ∧ Below w.heap.size w w' := by
  refine calls_X Tryz.func53 rfl Tryz.ntmps53 Tryz.results53 rfl rfl (by kernel_rfl) fun R hR => ?_
  simp only [push_cast, Nat.reduceBEq, Nat.reduceLeDiff, Nat.reduceAdd]
  refine law_loop [(5, 33)] (fun n h w' => ∃ (k m : Nat) (acc : List Bytes) (v : Value), m ≤ k ∧ k ≤ s.size + 1 ∧ n = s.size + 1 - k ∧ h 7 = .int .i64 k ∧ h 6 = .int .i64 m ∧ h 5 = v ∧ acc.length ≤ k ∧
    ((k ≤ s.size ∧ parts c (toL s) = partsA c acc (((toL s).take k).drop m) ((toL s).drop k)) ∨ (k = s.size + 1 ∧ parts c (toL s) = acc)) ∧ w'.ownsRow w.heap.size 9 1 v acc.length (strCs acc) ∧ Below w.heap.size w w') (s.size + 1) ⟨0, 0, [], _, by omega, by omega, by omega, rfl, rfl, rfl, by simp, .inl ⟨by omega, ?_⟩, ⟨rfl, .inl ⟨rfl, rfl⟩⟩, Below.refl _ _⟩ ?_
  · unfold partsA
    simp only [List.take_zero, List.drop_nil, List.drop_zero]
    rcases hp : parts c (toL s) with _ | ⟨p, ps⟩
    · exact absurd hp (parts_ne _ _)
    · rfl
  rintro n h w2 ⟨k, m, acc, v, hmk, hk, hn, h7, h6, h5, hal, hinv, hown, hb⟩ T hT
  obtain ⟨A, cc, rfl, _⟩ := strsAt_shape (strs_of_own hown)
  simp only [push_cast, Nat.reduceBEq, Nat.reduceLeDiff, Nat.reduceAdd, h5, h6, h7]
  have hsz := hb.size
  refine ⟨fun hc => ?_, fun hc => ?_⟩
  · simp only [decide_eq_true_eq, Int.ofNat_le] at hc
    replace hinv : parts c (toL s) = partsA c acc (((toL s).take k).drop m) ((toL s).drop k) := by
      rcases hinv with ⟨_, h⟩ | ⟨h1, _⟩
      · exact h
      · omega
    have hx : toL (s.extract m k) = ((toL s).take k).drop m := toL_extract s m k
    refine ⟨fun hne => by simp at hne; omega, fun hcut => ⟨⟨by omega, by omega, by omega⟩, ?_⟩, fun hcut => ?_⟩
    · rw [← mkS_toL (s.extract m k), hx]
      generalize hlast : ((toL s).take k).drop m = last at hinv
      simp only [push_cast, bsl34]
      refine getR_of (append34 w2 w.heap.size _ acc last hown hsz (by omega)) ?_
      rintro v' w3 ⟨hown3, hb3⟩
      simp only [push_cast, Nat.reduceBEq, Nat.reduceLeDiff, Nat.reduceAdd, h5, h6, h7]
      refine hT (s.size + 1 - (k + 1)) _ _ (by simp only [push_cast, Nat.reduceBEq, Nat.reduceLeDiff]) (by omega) ⟨k + 1, k + 1, acc ++ [last], v', by omega, by omega, rfl, ?_, ?_, ?_, by simp; omega, ?_, hown3, hb.trans hb3⟩
      · simp only [push_cast, Nat.reduceBEq, Nat.reduceLeDiff]; rw [w64 (by omega) (by omega)]
      · simp only [push_cast, Nat.reduceBEq, Nat.reduceLeDiff]; rw [w64 (by omega) (by omega)]
      · simp only [push_cast, Nat.reduceBEq, Nat.reduceLeDiff]
      · by_cases hks : k = s.size
        · refine .inr ⟨by omega, ?_⟩
          rw [hinv, List.drop_eq_nil_of_le (by rw [toL_len]; omega)]
          simp [partsA, parts]
        · obtain ⟨x, hx1, hx2, hx3⟩ := take_bt s k (by omega)
          simp only [Bool.or_eq_true, decide_eq_true_eq] at hcut
          have hxc : x = c := by
            rcases hcut with hh | hh
            · omega
            · rw [hx3, u8_eq] at hh; exact hh
          refine .inl ⟨by omega, ?_⟩
          have hkl : k < (toL s).length := by rw [toL_len]; omega
          have hd : (toL s).drop k = x :: (toL s).drop (k + 1) := by
            rw [List.getElem?_eq_getElem hkl] at hx1
            cases hx1
            exact List.drop_eq_getElem_cons hkl
          have e0 : ((toL s).take (k + 1)).drop (k + 1) = [] := List.drop_eq_nil_of_le (by rw [List.length_take]; omega)
          rw [hinv, hd, partsA_step, if_pos hxc, e0]
    · simp only [Bool.or_eq_false_iff, decide_eq_false_iff_not] at hcut
      have hks : k < s.size := by omega
      obtain ⟨x, hx1, hx2, hx3⟩ := take_bt s k hks
      have hkl : k < (toL s).length := by rw [toL_len]; omega
      have hd : (toL s).drop k = x :: (toL s).drop (k + 1) := by
        rw [List.getElem?_eq_getElem hkl] at hx1
        cases hx1
        exact List.drop_eq_getElem_cons hkl
      refine hT (s.size + 1 - (k + 1)) _ _ (by simp only [push_cast, Nat.reduceBEq, Nat.reduceLeDiff]) (by omega) ⟨k + 1, m, acc, _, by omega, by omega, rfl, ?_, ?_, ?_, by omega, .inl ⟨by omega, ?_⟩, hown, hb⟩
      · simp only [push_cast, Nat.reduceBEq, Nat.reduceLeDiff]; rw [w64 (by omega) (by omega)]
      · simp only [push_cast, Nat.reduceBEq, Nat.reduceLeDiff]; exact h6
      · simp only [push_cast, Nat.reduceBEq, Nat.reduceLeDiff]; exact h5
      · rw [hinv, hd, partsA_step, if_neg (by intro hh; rw [hx3, u8_eq] at hcut; exact hcut.2 hh), hx2, List.drop_append_of_le_length (by rw [List.length_take]; omega)]
  · simp only [decide_eq_false_iff_not, Int.ofNat_le, Nat.not_le] at hc
    rcases hinv with ⟨h1, _⟩ | ⟨_, hinv⟩
    · omega
    · refine hR _ _ ⟨⟨_, rfl, ?_⟩, hb⟩
      rw [hinv]; exact hown
end Go.Proofs.YtciepffocobgpaaGreatDoor
namespace Go.Proofs.YtciepffocobgpaaGreatDoor
open Go Go.Sx Go.RowKit
set_option linter.unusedSimpArgs false
set_option linter.unusedVariables false
theorem bld42_0 (w : World) : Sem.run Tryz.prog (Instr.build 42 #[]) w = .ok (.agg #[.string ⟨#[]⟩, .string ⟨#[]⟩]) w := by kernel_rfl
theorem bld42_2 (a b : ByteArray) (w : World) : Sem.run Tryz.prog (Instr.build 42 #[(0, .string a), (1, .string b)]) w = .ok (.agg #[.string a, .string b]) w := by kernel_rfl
theorem cut1_contains (c : UInt8) : ∀ l : Bytes, cut1 c l = none ↔ l.contains c = false
  | [] => by simp [cut1]
  | x :: r => by
    rw [cut1, List.contains_cons]
    by_cases h : x = c
    · subst h; simp
    · rw [if_neg h, Option.map_eq_none_iff, cut1_contains c r, show (c == x) = false from by simpa using fun e => h e.symm, Bool.false_or]
theorem one_two (l a b : Bytes) (h : parts 61 l = [a, b]) : one l = match unescape a with
      | .error e => .error e
      | .ok n => match unescape b with
        | .error e => .error e
        | .ok v => if n = [] then .error 10 else .ok (n, v) := by
  rw [parts_cut] at h
  cases hc : cut1 61 l with
  | none => rw [hc] at h; simp at h
  | some ab =>
    obtain ⟨a', b'⟩ := ab
    rw [hc] at h
    simp only [List.cons.injEq] at h
    obtain ⟨rfl, h⟩ := h
    rw [parts_cut] at h
    cases hc2 : cut1 61 b' with
    | some p => rw [hc2] at h; obtain ⟨p1, p2⟩ := p; have := parts_ne 61 p2; simp at h; exact absurd h.2 this
    | none =>
      rw [hc2] at h
      simp at h; subst h
      rw [one, hc]
      simp only
      rw [if_neg (by rw [(cut1_contains 61 b').1 hc2]; decide)]
      rfl
theorem one_not (l : Bytes) (h : (parts 61 l).length ≠ 2) : one l = .error 31 := by
  rw [parts_cut] at h
  rw [one]
  cases hc : cut1 61 l with
  | none => rfl
  | some ab =>
    obtain ⟨a', b'⟩ := ab
    rw [hc] at h
    simp only
    rw [if_pos]
    simp only [List.length_cons] at h
    rw [parts_cut] at h
    cases hc2 : cut1 61 b' with
    | none => rw [hc2] at h; simp at h
    | some p =>
      cases hcon : b'.contains 61
      · rw [(cut1_contains 61 b').2 hcon] at hc2; cases hc2
      · rfl
theorem rone (s : ByteArray) (hs : s.size ≤ 1000000) (w : World) :
    Calls Tryz.prog 90 #[.string s] w fun e w' => e = .returned (pv (one (toL s))) ∧ Below w.heap.size w w' := by
  refine calls_X Tryz.func90 rfl Tryz.ntmps90 Tryz.results90 rfl rfl (by kernel_rfl) fun R hR => ?_
  simp only [push_cast, Nat.reduceBEq, Nat.reduceLeDiff, Nat.reduceAdd, bld42_0, bld42_2]
  refine (rParts s 61 hs _).mono ?_
  rintro e w1 ⟨⟨v, rfl, hown⟩, hb1⟩
  have hb1' : Below (w.heap.size + 1) (al w [([Value.string ⟨#[]⟩, Value.string ⟨#[]⟩], 42)]) w1 := hb1.mono (by rw [al_size]; simp)
  have hb : Below w.heap.size w w1 := (al_below _ _).trans (hb1'.mono (by omega))
  have hs1 : w.heap.size + 1 ≤ w1.heap.size := by have := hb1'.size; simpa [al_size] using this
  obtain ⟨c0, f0⟩ := new_cell hb1' (by omega) 0
  obtain ⟨c1, f1⟩ := new_cell hb1' (by omega) 1
  simp only [List.getElem?_cons_zero, List.getElem?_cons_succ] at c0 c1
  have hstr := strs_of_own hown
  have hple := parts_le 61 (toL s)
  rw [toL_len] at hple
  obtain ⟨A, cc, rfl, hcells⟩ := strsAt_shape hstr
  simp only [push_cast, Nat.reduceBEq, Nat.reduceLeDiff, Nat.reduceAdd, bld42_0, bld42_2]
  refine ⟨fun h2 => ?_, fun h2 => ?_⟩
  · simp only [decide_eq_true_eq] at h2
    simp only [push_cast, Nat.reduceBEq, Nat.reduceLeDiff, Nat.reduceAdd, bld42_0, bld42_2, c0, c1, f0, f1]
    exact hR _ _ ⟨by rw [one_not _ (by omega)]; rfl, (hb.setCell (p := ⟨w.heap.size, 0, none⟩) (Nat.le_refl _) _).setCell (p := ⟨w.heap.size, 1, none⟩) (Nat.le_refl _) _⟩
  · simp only [decide_eq_false_iff_not] at h2
    obtain ⟨a, b, hab⟩ : ∃ a b, parts 61 (toL s) = [a, b] := by
      rcases hp : parts 61 (toL s) with _ | ⟨a, _ | ⟨b, _ | ⟨d, r⟩⟩⟩
      all_goals rw [hp] at h2
      all_goals simp at h2
      · exact ⟨a, b, rfl⟩
      · omega
    have hone := one_two _ _ _ hab
    rw [hab] at hcells hple
    have la := hple a (by simp)
    have lb := hple b (by simp)
    obtain ⟨bk, o, rfl, hbk, x0⟩ := hcells 0 a rfl
    obtain ⟨bk', o', hA', hbk', x1⟩ := hcells 1 b rfl
    cases hA'
    rw [Nat.add_zero] at x0
    rw [hab]
    simp only [push_cast, Nat.reduceBEq, Nat.reduceLeDiff, Nat.reduceAdd, Int.reduceToNat, Nat.zero_mul, Nat.mul_one, x0, List.length_cons, List.length_nil]
    refine ⟨by omega, (rUnescape (mkS a) (by rw [size_mkS]; omega) w1).mono ?_⟩
    rintro e w2 ⟨rfl, hb2⟩
    rw [toL_mkS]
    replace c0 := (hb2.cell (p := ⟨w.heap.size, 0, none⟩) hs1).trans c0
    replace c1 := (hb2.cell (p := ⟨w.heap.size, 1, none⟩) hs1).trans c1
    replace f0 := (hb2.frozen (p := ⟨w.heap.size, 0, none⟩) hs1).trans f0
    replace f1 := (hb2.frozen (p := ⟨w.heap.size, 1, none⟩) hs1).trans f1
    replace x1 := (hb2.cell (p := ⟨bk, _, none⟩) hbk).trans x1
    have hs2 : w.heap.size + 1 ≤ w2.heap.size := Nat.le_trans hs1 hb2.size
    replace hb2 : Below w.heap.size w w2 := hb.trans (hb2.mono hb.size)
    cases hu : unescape a with
    | error er =>
      rw [hu] at hone
      have hne : (decide (er ≠ 0)) = true := by rcases unesc_err hu with rfl | rfl <;> rfl
      simp only [push_cast, Nat.reduceBEq, Nat.reduceLeDiff, Nat.reduceAdd, Int.reduceNe, decide_true, decide_false, bld42_0, bld42_2, c0, c1, f0, f1, uv, hne]
      exact hR _ _ ⟨by rw [hone]; rfl, (hb2.setCell (p := ⟨w.heap.size, 0, none⟩) (Nat.le_refl _) _).setCell (p := ⟨w.heap.size, 1, none⟩) (Nat.le_refl _) _⟩
    | ok na =>
      rw [hu] at hone
      simp only [push_cast, Nat.reduceBEq, Nat.reduceLeDiff, Nat.reduceAdd, Int.reduceNe, decide_true, decide_false, bld42_0, bld42_2, c0, c1, f0, f1, uv]
      simp only [Int.reduceToNat, Nat.zero_mul, Nat.one_mul, Nat.mul_one, x1, push_cast]
      refine ⟨by omega, (rUnescape (mkS b) (by rw [size_mkS]; omega) w2).mono ?_⟩
      rintro e w3 ⟨rfl, hb3⟩
      rw [toL_mkS]
      replace c0 := (hb3.cell (p := ⟨w.heap.size, 0, none⟩) hs2).trans c0
      replace c1 := (hb3.cell (p := ⟨w.heap.size, 1, none⟩) hs2).trans c1
      replace f0 := (hb3.frozen (p := ⟨w.heap.size, 0, none⟩) hs2).trans f0
      replace f1 := (hb3.frozen (p := ⟨w.heap.size, 1, none⟩) hs2).trans f1
      replace hb3 : Below w.heap.size w w3 := hb2.trans (hb3.mono hb2.size)
      cases hu2 : unescape b with
      | error er =>
        rw [hu2] at hone
        have hne : (decide (er ≠ 0)) = true := by rcases unesc_err hu2 with rfl | rfl <;> rfl
        simp only [push_cast, Nat.reduceBEq, Nat.reduceLeDiff, Nat.reduceAdd, Int.reduceNe, decide_true, decide_false, bld42_0, bld42_2, c0, c1, f0, f1, uv, hne]
        exact hR _ _ ⟨by rw [hone]; rfl, (hb3.setCell (p := ⟨w.heap.size, 0, none⟩) (Nat.le_refl _) _).setCell (p := ⟨w.heap.size, 1, none⟩) (Nat.le_refl _) _⟩
      | ok nb =>
        rw [hu2] at hone
        simp only [push_cast, Nat.reduceBEq, Nat.reduceLeDiff, Nat.reduceAdd, Int.reduceNe, decide_true, decide_false, bld42_0, bld42_2, c0, c1, f0, f1, uv, mkS_eq, toL_empty]
        refine ⟨fun h2 => hR _ _ ⟨?_, (hb3.setCell (p := ⟨w.heap.size, 0, none⟩) (Nat.le_refl _) _).setCell (p := ⟨w.heap.size, 1, none⟩) (Nat.le_refl _) _⟩, fun h2 => hR _ _ ⟨?_, (hb3.setCell (p := ⟨w.heap.size, 0, none⟩) (Nat.le_refl _) _).setCell (p := ⟨w.heap.size, 1, none⟩) (Nat.le_refl _) _⟩⟩
        · simp only [decide_eq_true_eq] at h2
          rw [hone]; simp only [h2, if_true]; rfl
        · simp only [decide_eq_false_iff_not] at h2
          rw [hone]; simp only [h2, if_false]; rfl
end Go.Proofs.YtciepffocobgpaaGreatDoor
namespace Go.Proofs.YtciepffocobgpaaGreatDoor
open Go Go.Sx Go.RowKit
set_option linter.unusedSimpArgs false
set_option linter.unusedVariables false
theorem info42 : (Tryz.prog.info? 42).map (fun i => (i.zero, i.size, i.bytes)) = some (some (.agg #[.string ⟨#[]⟩, .string ⟨#[]⟩]), 2, 32) := by kernel_rfl
theorem bsl33 (a b : ByteArray) (w : World) : Sem.run Tryz.prog (Instr.buildSlice 33 1 #[(0, .agg #[.string a, .string b])]) w = .ok (.slice (some ⟨w.heap.size, 0, none⟩) 1 1) (w.alloc (.cells #[.string a, .string b] 42)) := by kernel_rfl
theorem append33 (w : World) (B : Nat) (v : Value) (ps : List Pr) (p : Pr) (hown : w.ownsRow B 42 2 v ps.length (pairCells ps)) (hB : B ≤ w.heap.size) (hl : ps.length ≤ 1000000) :
    ∃ v' w', Sem.run Tryz.prog (Builtin.append_ #[33, 33] 33 #[v, .slice (some ⟨w.heap.size, 0, none⟩) 1 1]) (al w [([.string (mkS p.1), .string (mkS p.2)], 42)]) = .ok v' w' ∧
      (w'.ownsRow B 42 2 v' (ps ++ [p]).length (pairCells (ps ++ [p])) ∧ Below B w w') := by
  obtain ⟨i0, hi, hz0, hz1, hz2⟩ := info_parts info42
  have hnews : ∀ (j : Nat) (u : Value), [Value.string (mkS p.1), Value.string (mkS p.2)][j]? = some u → (al w [([Value.string (mkS p.1), Value.string (mkS p.2)], 42)]).cell? ((⟨w.heap.size, 0, none⟩ : Addr).add j) = some u := by
    intro j u hj
    rcases j with _ | _ | j
    · simp at hj; subst hj; exact al_cell0 ..
    · simp at hj; subst hj
      simp only [push_cast]
    · simp at hj
  obtain ⟨v', w', h1, h2, h3, _⟩ := run_append_own (P := Tryz.prog) (al w [([.string (mkS p.1), .string (mkS p.2)], 42)]) B 33 33 42 i0 (.agg #[.string ⟨#[]⟩, .string ⟨#[]⟩]) 2 32 Tryz.underlying33 hi hz0 hz1 hz2 rfl (by decide) v ps.length (pairCells ps) (own_below hown (al_below _ _)) ⟨w.heap.size, 0, none⟩ 1 1 [.string (mkS p.1), .string (mkS p.2)] rfl hnews (by simp; exact ⟨rfl, rfl⟩) (by unfold maxLen; omega) (by omega) (by rw [al_size]; omega)
  · refine ⟨v', w', h1, ?_, ?_⟩
    · rw [pairCells_append, show (ps ++ [p]).length = ps.length + 1 from by simp]; exact h2
    · refine Below.grown ((al_below w _).mono hB) h3 (by rw [al_size]; omega) ?_
      intro k hk
      rcases hown.2 with ⟨rfl, _⟩ | ⟨g, cap, cur, rfl, hBg, _⟩
      · cases hk
      · cases hk; exact hBg
theorem rForm (s : ByteArray) (hs : s.size ≤ 1000000) (w : World) :
    Calls Tryz.prog 55 #[.string s] w fun e w' => FormPost (form (toL s)) e w w' ∧ Below w.heap.size w w' := by
  refine calls_X Tryz.func55 rfl Tryz.ntmps55 Tryz.results55 rfl rfl (by kernel_rfl) fun R hR => ?_
  simp only [push_cast, Nat.reduceBEq, Nat.reduceLeDiff, Nat.reduceAdd]
  simp only [empty_iff]
  refine ⟨fun he => hR _ _ ⟨?_, Below.refl _ _⟩, fun he => ?_⟩
  · simp only [decide_eq_true_eq] at he
    rw [form, if_pos he]
    exact ⟨_, rfl, .inl ⟨0, rfl, rfl⟩, trivial⟩
  simp only [decide_eq_false_iff_not] at he
  have ef : form (toL s) = formGo (parts 38 (toL s)) [] := by rw [form, if_neg he]
  refine (rParts s 38 hs w).mono ?_
  rintro e w1 ⟨⟨v0, rfl, hown0⟩, hb1⟩
  have hstr := strs_of_own hown0
  have hple := parts_le 38 (toL s)
  have hlen2 := parts_count 38 (toL s)
  rw [toL_len] at hple hlen2
  generalize parts 38 (toL s) = pl at hown0 hstr ef hple hlen2
  obtain ⟨A0, cc0, rfl, hcells0⟩ := strsAt_shape hstr
  simp only [push_cast, Nat.reduceBEq, Nat.reduceLeDiff, Nat.reduceAdd]
  refine law_loop [(2, 4), (6, 9), (14, 50)] (fun n h w' => ∃ (k : Nat) (acc : List Pr) (v : Value), k ≤ pl.length ∧ n = pl.length - k ∧ h 6 = .int .i64 k ∧ h 4 = v ∧ w'.ownsRow w1.heap.size 42 2 v acc.length (pairCells acc) ∧ acc.length = k ∧ k ≤ 32 ∧ form (toL s) = formGo (pl.drop k) acc ∧ Below w1.heap.size w1 w') pl.length ⟨0, [], _, by omega, by omega, rfl, rfl, ⟨rfl, .inl ⟨rfl, rfl⟩⟩, rfl, by omega, ef, Below.refl _ _⟩ ?_
  rintro n h w2 ⟨k, acc, v, hk, hn, h6, h4, hown, hacc, hk32, hf, hb⟩ T hT
  obtain ⟨A, c, rfl, _⟩ := pairsAt_shape (pairs_of_own hown)
  simp only [push_cast, Nat.reduceBEq, Nat.reduceLeDiff, Nat.reduceAdd, h6, h4]
  refine ⟨fun hc => ?_, fun hc => ?_⟩
  · simp only [decide_eq_true_eq, Int.ofNat_lt] at hc
    have hd := List.drop_eq_getElem_cons hc
    have hp : pl[k]? = some pl[k] := List.getElem?_eq_getElem hc
    have hpl := hple pl[k] (List.getElem_mem hc)
    generalize pl[k] = p at hd hp hpl
    obtain ⟨b, o, rfl, hbk, c0⟩ := hcells0 k p hp
    rw [← hb.cell (p := ⟨b, _, none⟩) hbk] at c0
    have hsz2 := hb.size
    have hbw2 : Below w.heap.size w w2 := hb1.trans (hb.mono hb1.size)
    rw [hd] at hf
    simp only [push_cast, Nat.reduceBEq, Nat.reduceLeDiff, Nat.reduceAdd, h6, h4, c0, Nat.mul_one]
    refine ⟨fun h1 => hR _ _ ⟨?_, hbw2⟩, fun h1 => ⟨by omega, ?_⟩⟩
    · simp only [decide_eq_true_eq] at h1
      rw [hf, formGo, if_pos (by omega)]; rfl
    simp only [decide_eq_false_iff_not] at h1
    rw [formGo, if_neg (by omega)] at hf
    refine (rone (mkS p) (by rw [size_mkS]; omega) w2).mono ?_
    rintro e w3 ⟨rfl, hb3⟩
    rw [toL_mkS]
    have hbw3 : Below w1.heap.size w1 w3 := hb.trans (hb3.mono hsz2)
    have hs3 := hb3.size
    cases ho : one p with
    | error er =>
      rw [ho] at hf
      have hne : (decide (er ≠ 0)) = true := by rcases one_err ho with rfl | rfl | rfl <;> rfl
      simp only [push_cast, Nat.reduceBEq, Nat.reduceLeDiff, Nat.reduceAdd, Int.reduceNe, decide_true, decide_false, pv, hne]
      exact hR _ _ ⟨by rw [hf]; rfl, hb1.trans ((Below_al hbw3 _ (Nat.le_refl _)).mono hb1.size)⟩
    | ok x =>
      rw [ho] at hf
      obtain ⟨x1, x2⟩ := x
      have hown3 := own_below hown (hb3.trans ((al_below w3 [([.string (mkS x1), .string (mkS x2)], 42)]).mono hs3))
      simp only [push_cast, Nat.reduceBEq, Nat.reduceLeDiff, Nat.reduceAdd, Int.reduceNe, decide_true, decide_false, pv, h4]
      refine law_loop [(2, 3), (9, 9), (33, 46)] (fun n' h' w' => ∃ j : Nat, j ≤ acc.length ∧ n' = acc.length - j ∧ h' 9 = .int .i64 j ∧ (∀ y ∈ acc.take j, y.1 ≠ x1) ∧ Below (w3.heap.size + 1) (al w3 [([.string (mkS x1), .string (mkS x2)], 42)]) w') acc.length ⟨0, by omega, by omega, rfl, by simp, Below.refl _ _⟩ ?_
      rintro n' h' w4 ⟨j, hj, hn', h9, hall, hb4⟩ T2 hT2
      simp only [push_cast, Nat.reduceBEq, Nat.reduceLeDiff, Nat.reduceAdd, h9, h4, h6]
      have hown4 := own_below hown3 (hb4.mono (by rw [al_size]; exact Nat.le_refl _))
      have hbw4 : Below w1.heap.size w1 w4 := (Below_al hbw3 _ (Nat.le_refl _)).trans (hb4.mono (by have := hbw3.size; omega))
      have hs4 : w3.heap.size + 1 ≤ w4.heap.size := by have := hb4.size; simpa [al_size] using this
      obtain ⟨d0, _⟩ := new_cell hb4 (Nat.lt_succ_self _) 0
      obtain ⟨d1, _⟩ := new_cell hb4 (Nat.lt_succ_self _) 1
      simp only [List.getElem?_cons_zero, List.getElem?_cons_succ] at d0 d1
      simp only at hf
      refine ⟨fun hj2 => ?_, fun hj2 => ?_⟩
      · simp only [decide_eq_true_eq, Int.ofNat_lt] at hj2
        obtain ⟨A', c', hAeq, hcs⟩ := pairsAt_shape (pairs_of_own hown4)
        cases hAeq
        have hy : acc[j]? = some acc[j] := List.getElem?_eq_getElem hj2
        have htk : acc.take (j + 1) = acc.take j ++ [acc[j]] := List.take_succ_eq_append_getElem hj2
        have hym : acc[j] ∈ acc := List.getElem_mem hj2
        generalize acc[j] = y at hy htk hym
        obtain ⟨g, go, rfl, hg, y0, _⟩ := hcs j y hy
        refine law_quiet (C := Below w4.heap.size w4) (by kernel_rfl) (by kernel_rfl) (Below.refl _ _).drew ?_
        have q0 : cellC (Below w4.heap.size w4) ⟨g, go + j * 2, none⟩ = some (.string (mkS y.1)) := cellC_below hg y0
        have q1 : cellC (Below w4.heap.size w4) ⟨w3.heap.size, 0, none⟩ = some (.string (mkS x1)) := cellC_below (by show w3.heap.size < _; omega) d0
        simp only [push_cast, Nat.reduceBEq, Nat.reduceLeDiff, Nat.reduceAdd, h9, h4, h6, q0, q1, mkS_eq, toL_mkS]
        refine ⟨⟨by omega, by omega⟩, fun w5 hb5 => ⟨fun hyx => hR _ _ ⟨?_, ?_⟩, fun hyx => ?_⟩⟩
        · simp only [decide_eq_true_eq] at hyx
          rw [hf, if_pos (List.any_eq_true.2 ⟨y, hym, decide_eq_true hyx⟩)]; rfl
        · exact hb1.trans ((hbw4.trans (hb5.mono hbw4.size)).mono hb1.size)
        · simp only [decide_eq_false_iff_not] at hyx
          refine hT2 (acc.length - (j + 1)) _ _ (by simp only [push_cast, Nat.reduceBEq, Nat.reduceLeDiff]) (by omega) ⟨j + 1, by omega, rfl, ?_, ?_, hb4.trans (hb5.mono hs4)⟩
          · simp only [push_cast, Nat.reduceBEq, Nat.reduceLeDiff]; rw [w64 (by omega) (by omega)]
          · intro z hz
            rw [htk] at hz
            rcases List.mem_append.1 hz with hz | hz
            · exact hall z hz
            · simp at hz; subst hz; exact hyx
      · simp only [decide_eq_false_iff_not, Int.ofNat_lt, Nat.not_lt] at hj2
        rw [List.take_of_length_le hj2] at hall
        simp only [push_cast, Nat.reduceBEq, Nat.reduceLeDiff, Nat.reduceAdd, h4, d0, d1, bsl33]
        refine getR_of (append33 w4 w1.heap.size _ acc (x1, x2) hown4 hbw4.size (by omega)) ?_
        rintro v' w5 ⟨hown5, hb5⟩
        simp only [push_cast, Nat.reduceBEq, Nat.reduceLeDiff, Nat.reduceAdd, h6, h4]
        refine hT (pl.length - (k + 1)) _ _ (by simp only [push_cast, Nat.reduceBEq, Nat.reduceLeDiff]) (by omega) ⟨k + 1, acc ++ [(x1, x2)], v', by omega, rfl, ?_, ?_, hown5, by simp; omega, by omega, ?_, hbw4.trans hb5⟩
        · simp only [push_cast, Nat.reduceBEq, Nat.reduceLeDiff]; rw [w64 (by omega) (by omega)]
        · simp only [push_cast, Nat.reduceBEq, Nat.reduceLeDiff]
        · rw [hf, if_neg]
          simp only [List.any_eq_true, decide_eq_true_eq, not_exists, not_and]
          exact fun y hy => hall y hy
  · simp only [decide_eq_false_iff_not, Int.ofNat_lt, Nat.not_lt] at hc
    refine hR _ _ ⟨?_, hb1.trans (hb.mono hb1.size)⟩
    rw [hf, List.drop_eq_nil_of_le hc]
    exact ⟨_, rfl, pairs_of_own hown, (fresh_of_own hown).mono hb1.size⟩
end Go.Proofs.YtciepffocobgpaaGreatDoor
