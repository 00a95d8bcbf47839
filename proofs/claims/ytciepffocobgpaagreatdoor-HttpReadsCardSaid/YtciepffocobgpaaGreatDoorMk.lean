/- The law HttpReads, walked. -/
import Derived.Test.YtciepffocobgpaaGreatDoorMl
import Derived.Test.YtciepffocobgpaaGreatDoorMj
namespace Go.Proofs.YtciepffocobgpaaGreatDoor
open Go Go.Sx Go.RowKit
set_option linter.unusedSimpArgs false
set_option linter.unusedVariables false
set_option maxRecDepth 20000 in
theorem HttpReads_ (v : Value) (l : Bytes) (w : World) (hG : G w) (hv : BytesAt w v l) :
    Calls Tryz.prog 4 #[v] w fun e w' => e = .returned (.bool true) ∧ Below w.heap.size w w' := by
  obtain ⟨A, c, rfl, hcells⟩ := bytesAt_shape hv
  refine calls_X Tryz.func4 rfl Tryz.ntmps4 Tryz.results4 rfl rfl (by kernel_rfl) fun R hR => ?_
  simp only [push_cast, Nat.reduceBEq, Nat.reduceLeDiff, Nat.reduceAdd]
  refine (anchor_ w hG).mono ?_
  rintro e w1 ⟨rfl, hb1⟩
  have hv1 := bytesAt_below hv hb1
  have hG1 := hG.step hb1 hG.size
  simp only [push_cast, Nat.reduceBEq, Nat.reduceLeDiff, Nat.reduceAdd]
  refine ⟨fun _ => hR _ _ ⟨rfl, hb1⟩, fun _ => ?_⟩
  refine (ParseAnswer_ _ l w1 hG1 hv1).mono ?_
  rintro e w2 ⟨hP, hb2⟩
  have hv2 := bytesAt_below hv1 hb2
  have hb02 := hb1.trans (hb2.mono hb1.size)
  have hs02 := hb02.size
  have hlaw := ans_law l
  cases hr : ansS l with
  | error er =>
    rw [hr] at hP hlaw
    simp only [CaughtA] at hP
    subst hP
    obtain ⟨he, hne⟩ := hlaw
    have hb3 := al_below w2 [([Value.int .i64 0, .slice none 0 0], 45)]
    have hv3 := bytesAt_below hv2 hb3
    have hc3 := conv_back hv3
    simp only [push_cast, Nat.reduceBEq, Nat.reduceLeDiff, Nat.reduceAdd, hc3]
    refine (rAnswer l _).mono ?_
    rintro e w4 ⟨rfl, ⟨v2, v3, v4, h4⟩, hb4⟩
    have hs3 : (al w2 [([Value.int .i64 0, .slice none 0 0], 45)]).heap.size = w2.heap.size + 1 := by rw [al_size]; rfl
    have n0 := (new_cell hb4 (by omega) 0).1
    have n1 := (new_cell hb4 (by omega) 1).1
    simp only [List.getElem?_cons_zero, List.getElem?_cons_succ] at n0 n1
    have c6 := h4.c6
    rw [hs3] at c6
    rw [he] at c6
    have q1 : decide (er ≠ 0) = true := decide_eq_true hne
    have q2 : decide (er ≠ er) = false := decide_eq_false (fun h => h rfl)
    simp only [push_cast, Nat.reduceBEq, Nat.reduceLeDiff, Nat.reduceAdd, c6, n0, n1, q1, q2, Bool.and_self, decide_true]
    exact hR _ _ ⟨rfl, (hb02.trans (hb3.mono hs02)).trans (hb4.mono (by omega))⟩
  | ok r =>
    obtain ⟨n, bb⟩ := r
    rw [hr] at hP hlaw
    obtain ⟨he, hn, hbb⟩ := hlaw
    obtain ⟨vb, rfl, hb, hbf⟩ := hP
    obtain ⟨b1, b2⟩ := cl_bytes hb
    have hb3 := al_below w2 [([Value.int .i64 n, vb], 45)]
    have hv3 := bytesAt_below hv2 hb3
    have hc3 := conv_back hv3
    simp only [push_cast, Nat.reduceBEq, Nat.reduceLeDiff, Nat.reduceAdd, hc3, b1, b2]
    refine (rAnswer l _).mono ?_
    rintro e w4 ⟨rfl, ⟨v2, v3, v4, h4⟩, hb4⟩
    have hs3 : (al w2 [([Value.int .i64 n, vb], 45)]).heap.size = w2.heap.size + 1 := by rw [al_size]; rfl
    have n0 := (new_cell hb4 (by omega) 0).1
    have n1 := (new_cell hb4 (by omega) 1).1
    simp only [List.getElem?_cons_zero, List.getElem?_cons_succ] at n0 n1
    have h4lt := h4.lt
    have m5 := h4.c5
    have c6 := h4.c6
    rw [hs3] at m5 c6 h4lt
    rw [he] at c6
    rw [hbb] at m5
    rw [hn]
    have hs4 := hb4.size
    rw [hs3] at hs4
    have hb24 := hb3.trans (hb4.mono (by omega))
    have hb04 := hb02.trans (hb24.mono hs02)
    replace hb := bytesAt_below hb hb24
    obtain ⟨Ab, cb, rfl, _⟩ := bytesAt_shape hb
    have q2' : decide ((0 : Int) ≠ 0) = false := rfl
    simp only [push_cast, Nat.reduceBEq, Nat.reduceLeDiff, Nat.reduceAdd, c6, q2']
    have hp1 : w2.heap.size < w4.heap.size := by omega
    have k0 : cellC (Below w4.heap.size w4) ⟨w2.heap.size, 0, none⟩ = _ := cellC_below hp1 n0
    have k1 : cellC (Below w4.heap.size w4) ⟨w2.heap.size, 1, none⟩ = _ := cellC_below hp1 n1
    have j5 : cellC (Below w4.heap.size w4) ⟨w2.heap.size + 1, 5, none⟩ = _ := cellC_below h4lt m5
    have jc : convC Tryz.prog (Below w4.heap.size w4) 22 9 (.slice Ab (List.length bb) cb) = some (.string (mkS bb)) :=
      convC_of w4 (Below.refl _ _) fun w' hw' => conv_back (bytesAt_below hb hw')
    have ee : ∀ a : ByteArray, decide (a = a) = true := fun a => decide_eq_true rfl
    have ei : ∀ a : Int, decide (a = a) = true := fun a => decide_eq_true rfl
    refine law_quiet (C := Below w4.heap.size w4) (by kernel_rfl) (by kernel_rfl) (Below.refl _ _).drew ?_
    simp only [push_cast, Nat.reduceBEq, Nat.reduceLeDiff, Nat.reduceAdd, k0, k1, j5, jc, ee, ei, Bool.and_self]
    intro w5 hb5
    exact hR _ _ ⟨rfl, hb04.trans (hb5.mono (by have := hb04.size; omega))⟩
end Go.Proofs.YtciepffocobgpaaGreatDoor
