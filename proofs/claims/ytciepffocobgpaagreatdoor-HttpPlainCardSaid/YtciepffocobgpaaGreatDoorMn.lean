/- The answer's bytes: what (Answer).Bytes writes, and what it is read as; the law HttpAnswers, walked. -/
import Derived.Test.YtciepffocobgpaaGreatDoorMi
import Derived.Test.YtciepffocobgpaaGreatDoorMg
import Derived.Test.YtciepffocobgpaaGreatDoorMs
import Derived.Test.YtciepffocobgpaaGreatDoorMl
namespace Go.Proofs.YtciepffocobgpaaGreatDoor
open Go Go.Sx Go.RowKit
set_option linter.unusedSimpArgs false
set_option linter.unusedVariables false
/-- A status's word. -/
def wordS (n : Int) : Bytes :=
  if n = 200 then [79, 75] else
  if n = 201 then [67, 114, 101, 97, 116, 101, 100] else
  if n = 202 then [65, 99, 99, 101, 112, 116, 101, 100] else
  if n = 204 then [78, 111, 32, 67, 111, 110, 116, 101, 110, 116] else
  if n = 400 then [66, 97, 100, 32, 82, 101, 113, 117, 101, 115, 116] else
  if n = 401 then [85, 110, 97, 117, 116, 104, 111, 114, 105, 122, 101, 100] else
  if n = 403 then [70, 111, 114, 98, 105, 100, 100, 101, 110] else
  if n = 404 then [78, 111, 116, 32, 70, 111, 117, 110, 100] else
  if n = 405 then [77, 101, 116, 104, 111, 100, 32, 78, 111, 116, 32, 65, 108, 108, 111, 119, 101, 100] else
  if n = 409 then [67, 111, 110, 102, 108, 105, 99, 116] else
  if n = 413 then [67, 111, 110, 116, 101, 110, 116, 32, 84, 111, 111, 32, 76, 97, 114, 103, 101] else
  if n = 503 then [83, 101, 114, 118, 105, 99, 101, 32, 85, 110, 97, 118, 97, 105, 108, 97, 98, 108, 101] else
  []
theorem word_ (n : Int) (w : World) : Calls Tryz.prog 33 #[.int .i64 n] w fun e w' => e = .returned (.string (mkS (wordS n))) ∧ w = w' := by
  refine calls_X Tryz.func33 rfl Tryz.ntmps33 Tryz.results33 rfl rfl (by kernel_rfl) fun R hR => ?_
  simp only [push_cast, Nat.reduceBEq, Nat.reduceLeDiff, Nat.reduceAdd]
  unfold wordS at hR
  refine ⟨fun h => ?_, fun h => ?_⟩
  · simp only [decide_eq_true_eq] at h
    rw [if_pos h] at hR; exact hR _ _ ⟨rfl, rfl⟩
  simp only [decide_eq_false_iff_not] at h
  rw [if_neg h] at hR
  refine ⟨fun h => ?_, fun h => ?_⟩
  · simp only [decide_eq_true_eq] at h
    rw [if_pos h] at hR; exact hR _ _ ⟨rfl, rfl⟩
  simp only [decide_eq_false_iff_not] at h
  rw [if_neg h] at hR
  refine ⟨fun h => ?_, fun h => ?_⟩
  · simp only [decide_eq_true_eq] at h
    rw [if_pos h] at hR; exact hR _ _ ⟨rfl, rfl⟩
  simp only [decide_eq_false_iff_not] at h
  rw [if_neg h] at hR
  refine ⟨fun h => ?_, fun h => ?_⟩
  · simp only [decide_eq_true_eq] at h
    rw [if_pos h] at hR; exact hR _ _ ⟨rfl, rfl⟩
  simp only [decide_eq_false_iff_not] at h
  rw [if_neg h] at hR
  refine ⟨fun h => ?_, fun h => ?_⟩
  · simp only [decide_eq_true_eq] at h
    rw [if_pos h] at hR; exact hR _ _ ⟨rfl, rfl⟩
  simp only [decide_eq_false_iff_not] at h
  rw [if_neg h] at hR
  refine ⟨fun h => ?_, fun h => ?_⟩
  · simp only [decide_eq_true_eq] at h
    rw [if_pos h] at hR; exact hR _ _ ⟨rfl, rfl⟩
  simp only [decide_eq_false_iff_not] at h
  rw [if_neg h] at hR
  refine ⟨fun h => ?_, fun h => ?_⟩
  · simp only [decide_eq_true_eq] at h
    rw [if_pos h] at hR; exact hR _ _ ⟨rfl, rfl⟩
  simp only [decide_eq_false_iff_not] at h
  rw [if_neg h] at hR
  refine ⟨fun h => ?_, fun h => ?_⟩
  · simp only [decide_eq_true_eq] at h
    rw [if_pos h] at hR; exact hR _ _ ⟨rfl, rfl⟩
  simp only [decide_eq_false_iff_not] at h
  rw [if_neg h] at hR
  refine ⟨fun h => ?_, fun h => ?_⟩
  · simp only [decide_eq_true_eq] at h
    rw [if_pos h] at hR; exact hR _ _ ⟨rfl, rfl⟩
  simp only [decide_eq_false_iff_not] at h
  rw [if_neg h] at hR
  refine ⟨fun h => ?_, fun h => ?_⟩
  · simp only [decide_eq_true_eq] at h
    rw [if_pos h] at hR; exact hR _ _ ⟨rfl, rfl⟩
  simp only [decide_eq_false_iff_not] at h
  rw [if_neg h] at hR
  refine ⟨fun h => ?_, fun h => ?_⟩
  · simp only [decide_eq_true_eq] at h
    rw [if_pos h] at hR; exact hR _ _ ⟨rfl, rfl⟩
  simp only [decide_eq_false_iff_not] at h
  rw [if_neg h] at hR
  refine ⟨fun h => ?_, fun h => ?_⟩
  · simp only [decide_eq_true_eq] at h
    rw [if_pos h] at hR; exact hR _ _ ⟨rfl, rfl⟩
  simp only [decide_eq_false_iff_not] at h
  rw [if_neg h] at hR
  exact hR _ _ ⟨rfl, rfl⟩
theorem grow_below (w : World) (os : Array Obj) : Below w.heap.size w (Go.Sort.grow w os) := by
  refine ⟨rfl, rfl, rfl, ?_, fun k hk => ?_⟩
  · simp only [Go.Sort.grow, Array.size_append]; omega
  · simp only [Go.Sort.grow]; rw [Array.getElem?_append_left hk]
theorem itoa_ (n : Nat) (hn : n < 1000000) (w : World) (hG : G w) : Calls Tryz.prog 34 #[.int .i64 n] w fun e w' => e = .returned (.string (mkS (Lib.decDigits n))) ∧ Below w.heap.size w w' := by
  refine (Tryz.strconv_Itoa n (by omega) (by omega) w hG.pow).mono ?_
  rintro e w' ⟨rfl, k, os, rfl⟩
  refine ⟨?_, ?_⟩
  · rw [Lib.itoa, if_neg (by omega), Int.toNat_natCast]; rfl
  · exact (drewN_below w k).trans ((grow_below _ os).mono (drewN_below w k).size)
theorem bsl22i (c : Int) (w : World) : Sem.run Tryz.prog (Instr.buildSlice 22 1 #[(0, .int .u8 c)]) w = .ok (.slice (some ⟨w.heap.size, 0, none⟩) 1 1) (w.alloc (.cells #[.int .u8 c] 5)) := by kernel_rfl
theorem dig_u8 (k : Nat) (h : k < 10) : IntKind.u8.wrap (IntKind.i64.wrap (48 + (k : Int))) = ((UInt8.ofNat (48 + k)).toNat : Int) := by
  rw [w64 (by omega) (by omega), show IntKind.u8.wrap (48 + (k : Int)) = 48 + (k : Int) from IntWalk.u8_in _ ⟨by omega, by omega⟩]
  have : 48 + k < 256 := by omega
  rw [UInt8.toNat_ofNat_of_lt' this]; omega
theorem one_byte (w : World) (c : UInt8) : BytesAt (al w [([.int .u8 c.toNat], 5)]) (.slice (some ⟨w.heap.size, 0, none⟩) 1 1) [c] :=
  .inr ⟨w.heap.size, 0, 1, rfl, by rw [al_size]; exact Nat.lt_succ_self _, fun j x hj => by
    rcases j with _ | j
    · simp at hj; subst hj; exact al_cell0 ..
    · simp at hj⟩
theorem mkS_app2 (a b : Bytes) : mkS (a ++ b) = mkS a ++ mkS b := by
  rw [← mkS_toL (mkS a ++ mkS b), toL_append, toL_mkS, toL_mkS]
theorem dd_le (n : Nat) : (Lib.decDigits n).length ≤ n + 1 := by
  induction n using Nat.strongRecOn with
  | _ n ih =>
  rw [Lib.decDigits]
  split
  · simp
  · have := ih (n / 10) (by omega)
    simp only [List.length_append, List.length_singleton]; omega
theorem rNum (n : Nat) : n < 100000 → ∀ w, Calls Tryz.prog 16 #[.int .i64 n] w fun e w' => e = .returned (.string (mkS (Lib.decDigits n))) ∧ Below w.heap.size w w' := by
  induction n using Nat.strongRecOn with
  | _ n ih =>
  intro hn w
  refine calls_X Tryz.func16 rfl Tryz.ntmps16 Tryz.results16 rfl rfl (by kernel_rfl) fun R hR => ?_
  have q1 : decide ((n : Int) ≤ -10) = false := decide_eq_false (by omega)
  have q2 : decide ((n : Int) < 0) = false := decide_eq_false (by omega)
  by_cases h10 : n < 10
  · have q3 : decide ((n : Int) < 10) = true := decide_eq_true (by omega)
    simp only [push_cast, Nat.reduceBEq, Nat.reduceLeDiff, Nat.reduceAdd, q1, q2, q3, dig_u8 n h10, bsl22i, conv_back (one_byte w (UInt8.ofNat (48 + n)))]
    exact hR _ _ ⟨by rw [Lib.decDigits, dif_pos h10], al_below _ _⟩
  · have q3 : decide ((n : Int) < 10) = false := decide_eq_false (by omega)
    simp only [push_cast, Nat.reduceBEq, Nat.reduceLeDiff, Nat.reduceAdd, q1, q2, q3]
    obtain ⟨q, hq⟩ : ∃ q, q = n / 10 := ⟨_, rfl⟩
    obtain ⟨r, hr⟩ : ∃ r, r = n % 10 := ⟨_, rfl⟩
    have hrl : r < 10 := by omega
    have e1 : (n : Int).tdiv 10 = (q : Int) := by rw [Int.tdiv_eq_ediv_of_nonneg (by omega)]; omega
    have e2 : (n : Int).tmod 10 = (r : Int) := by rw [Int.tmod_eq_emod_of_nonneg (by omega)]; omega
    have e3 : IntKind.i64.wrap (q : Int) = (q : Int) := w64 (by omega) (by omega)
    have e4 : ((10 : Int) == 0) = false := by decide
    have ed := dig_u8 r hrl
    have hsz : (mkS (Lib.decDigits q)).size + (mkS [UInt8.ofNat (48 + r)]).size ≤ 9223372036854775807 := by
      have := dd_le q
      rw [size_mkS, size_mkS, List.length_singleton]; omega
    have hmk : mkS (Lib.decDigits n) = mkS (Lib.decDigits q) ++ mkS [UInt8.ofNat (48 + r)] := by
      rw [← mkS_app2, hq, hr, Lib.decDigits, dif_neg h10]
    refine law_planC (fun _ => True) (.take 0 (.take 1 (.take 3 (.take 4 (.take 5 (.take 6 (.alt 2 (.alt 7 (.alt 8 (.take 9 (.take 10 (.done))) (.nil)) (.nil)) (.alt 7 (.alt 2 (.alt 8 (.take 9 (.take 10 (.done))) (.nil)) (.alt 8 (.alt 2 (.take 9 (.take 10 (.done))) (.nil)) (.nil))) (.nil)))))))) ) (by kernel_rfl) (by kernel_rfl) (by kernel_rfl) trivial ?_
    simp only [push_cast, Nat.reduceBEq, Nat.reduceLeDiff, Nat.reduceAdd, e1, e2, e3, e4, ed, bsl22i]
    refine ⟨(ih q (by omega) (by omega) w.drew).mono ?_, ?_⟩
    · rintro e w1 ⟨rfl, hb1⟩
      simp only [push_cast, Nat.reduceBEq, Nat.reduceLeDiff, Nat.reduceAdd, e1, e2, e3, e4, ed, bsl22i, conv_back (one_byte w1 (UInt8.ofNat (48 + r))), ← hmk, true_and, and_true]
      exact ⟨hsz, hR _ _ ⟨rfl, ((Below.refl _ w).drew.trans hb1).trans ((al_below w1 _).mono hb1.size)⟩⟩
    · refine ⟨(ih q (by omega) (by omega) _).mono ?_, ?_⟩
      · rintro e w1 ⟨rfl, hb1⟩
        have hv := bytesAt_below (one_byte w.drew (UInt8.ofNat (48 + r))) hb1
        simp only [push_cast, Nat.reduceBEq, Nat.reduceLeDiff, Nat.reduceAdd, e1, e2, e3, e4, ed, bsl22i, conv_back hv, ← hmk, true_and, and_true]
        exact ⟨hsz, hR _ _ ⟨rfl, ((Below.refl _ w).drew.trans (al_below w.drew _)).trans (hb1.mono (al_below w.drew _).size)⟩⟩
      · simp only [push_cast, Nat.reduceBEq, Nat.reduceLeDiff, Nat.reduceAdd, e1, e2, e3, e4, ed, bsl22i, conv_back (one_byte w.drew (UInt8.ofNat (48 + r))), ← hmk, true_and, and_true]
        refine (ih q (by omega) (by omega) _).mono ?_
        rintro e w1 ⟨rfl, hb1⟩
        simp only [push_cast, Nat.reduceBEq, Nat.reduceLeDiff, Nat.reduceAdd, e1, e2, e3, e4, ed, bsl22i, ← hmk, true_and, and_true]
        exact ⟨hsz, hR _ _ ⟨rfl, ((Below.refl _ w).drew.trans (al_below w.drew _)).trans (hb1.mono (al_below w.drew _).size)⟩⟩
end Go.Proofs.YtciepffocobgpaaGreatDoor
namespace Go.Proofs.YtciepffocobgpaaGreatDoor
open Go Go.Sx Go.RowKit
set_option linter.unusedSimpArgs false
set_option linter.unusedVariables false
def hlS (p : Pr) : Bytes := p.1 ++ [58, 32] ++ p.2 ++ [13, 10]
def hlsS (ps : List Pr) : Bytes := ps.flatMap hlS
theorem hlsS_len (ps : List Pr) (h : ∀ p ∈ ps, p.1.length ≤ 100000 ∧ p.2.length ≤ 100000) : (hlsS ps).length ≤ ps.length * 200004 := by
  induction ps with
  | nil => simp [hlsS]
  | cons p ps ih =>
    have := ih fun q hq => h q (List.mem_cons_of_mem _ hq)
    have := h p (List.mem_cons_self ..)
    simp only [hlsS, List.flatMap_cons, hlS, List.length_append, List.length_cons, List.length_nil] at *
    omega
theorem hlsS_snoc (ps : List Pr) (p : Pr) : hlsS (ps ++ [p]) = hlsS ps ++ hlS p := by simp [hlsS]
theorem lines_ (v : Value) (ps : List Pr) (w : World) (hv : PairsAt w v ps) (hl : ps.length ≤ 1000) (hp : ∀ p ∈ ps, p.1.length ≤ 100000 ∧ p.2.length ≤ 100000) :
    Calls Tryz.prog 35 #[v] w fun e w' => e = .returned (.string (mkS (hlsS ps))) ∧ Below w.heap.size w w' := by
  obtain ⟨A, c, rfl, hcells⟩ := pairsAt_shape hv
  refine calls_X Tryz.func35 rfl Tryz.ntmps35 Tryz.results35 rfl rfl (by kernel_rfl) fun R hR => ?_
  simp only [push_cast, Nat.reduceBEq, Nat.reduceLeDiff, Nat.reduceAdd]
  refine law_loop [(5, 5), (8, 20)] (fun n h w' => ∃ k : Nat, k ≤ ps.length ∧ n = ps.length - k ∧ h 8 = .int .i64 k ∧ Lib.IsBuilder 105 5 w.heap.size w.heap.size (Lib.byteCells (hlsS (ps.take k))) w' ∧ Below w.heap.size w w') ps.length ⟨0, by omega, by omega, rfl, ?_, al_below _ _⟩ ?_
  · have := Lib.fresh_isBuilder 105 5 w
    rw [al_alloc] at this
    exact this
  rintro n h w2 ⟨k, hk, hn, h8, hB, hb⟩ T hT
  have hlk : (hlsS (ps.take k)).length ≤ 1000 * 200004 := by
    have h1 := hlsS_len (ps.take k) fun q hq => hp q (List.mem_of_mem_take hq)
    have h2 : (ps.take k).length ≤ 1000 := by rw [List.length_take]; omega
    exact Nat.le_trans h1 (Nat.mul_le_mul_right _ h2)
  have hsz := hb.size
  simp only [push_cast, Nat.reduceBEq, Nat.reduceLeDiff, Nat.reduceAdd, h8]
  refine ⟨fun hc => ?_, fun hc => ?_⟩
  · simp only [decide_eq_true_eq, Int.ofNat_lt] at hc
    obtain ⟨b, o, rfl, hb1, c1, c2⟩ := hcells k _ (List.getElem?_eq_getElem hc)
    have hpk := hp _ (List.getElem_mem hc)
    have htk := List.take_succ_eq_append_getElem hc
    generalize ps[k] = p at c1 c2 htk hpk
    rw [← hb.cell (p := ⟨b, _, none⟩) hb1] at c1 c2
    have hln : (mkS p.1).size ≤ 100000 ∧ (mkS p.2).size ≤ 100000 := by rw [size_mkS, size_mkS]; exact hpk
    simp only [push_cast, Nat.reduceBEq, Nat.reduceLeDiff, Nat.reduceAdd, c1, c2, h8]
    have e0 : mkS p.1 ++ ⟨#[58, 32]⟩ ++ mkS p.2 ++ ⟨#[13, 10]⟩ = mkS (hlS p) := by simp only [hlS, mkS_app2]; rfl
    have s1 : (⟨#[58, 32]⟩ : ByteArray).size = 2 := rfl
    have s2 : (⟨#[13, 10]⟩ : ByteArray).size = 2 := rfl
    have hll : (hlS p).length ≤ 200004 := by simp only [hlS, List.length_append, List.length_cons, List.length_nil]; omega
    refine ⟨⟨by omega, by omega⟩, by omega, by simp only [ByteArray.size_append]; omega, by simp only [ByteArray.size_append]; omega, ?_⟩
    rw [e0]
    have hba : Below w2.heap.size w2 (al w2 [([Value.string (mkS p.1), Value.string (mkS p.2)], 38)]) := al_below _ _
    refine (writeString w.heap.size w.heap.size _ (mkS (hlS p)) _ (isBuilder_below hB hba) (by rw [bc_len, size_mkS]; omega) (by have := hba.size; omega)).mono ?_
    rintro e w3 ⟨rfl, hB3, hb3⟩
    simp only [push_cast, Nat.reduceBEq, Nat.reduceLeDiff, Nat.reduceAdd, h8]
    refine hT (ps.length - (k + 1)) _ _ (by simp only [push_cast, Nat.reduceBEq, Nat.reduceLeDiff]) (by omega) ⟨k + 1, by omega, rfl, ?_, .inr ?_, (hb.trans (hba.mono hsz)).trans hb3⟩
    · simp only [push_cast, Nat.reduceBEq, Nat.reduceLeDiff]; rw [w64 (by omega) (by omega)]
    · rw [htk, hlsS_snoc, show Lib.byteCells (hlsS (ps.take k) ++ hlS p) = Lib.byteCells (hlsS (ps.take k)) ++ Lib.strCells (mkS (hlS p)) from by simp [Lib.byteCells, Lib.strCells, mkS]]
      exact hB3
  · simp only [decide_eq_false_iff_not, Int.ofNat_lt, Nat.not_lt] at hc
    rw [List.take_of_length_le hc] at hB hlk
    refine (Tryz.Builder_String_any_f w.heap.size w.heap.size (hlsS ps) w2 (Lib.IsBuilderF.of hB) (by omega)).mono ?_
    rintro e w3 ⟨rfl, hB3, hb3⟩
    simp only [push_cast, Nat.reduceBEq, Nat.reduceLeDiff, Nat.reduceAdd]
    exact hR _ _ ⟨rfl, hb.trans hb3⟩
end Go.Proofs.YtciepffocobgpaaGreatDoor
namespace Go.Proofs.YtciepffocobgpaaGreatDoor
open Go Go.Sx Go.RowKit
set_option linter.unusedSimpArgs false
set_option linter.unusedVariables false
theorem bld38_2 (a b : ByteArray) (w : World) : Sem.run Tryz.prog (Instr.build 38 #[(0, .string a), (1, .string b)]) w = .ok (.agg #[.string a, .string b]) w := by kernel_rfl
theorem bsl25b (a b c d : ByteArray) (w : World) : Sem.run Tryz.prog (Instr.buildSlice 25 2 #[(0, .agg #[.string a, .string b]), (1, .agg #[.string c, .string d])]) w = .ok (.slice (some ⟨w.heap.size, 0, none⟩) 2 2) (w.alloc (.cells #[.string a, .string b, .string c, .string d] 38)) := by kernel_rfl
theorem append25b (w : World) (B : Nat) (v : Value) (ps : List Pr) (p q : Pr) (hown : w.ownsRow B 38 2 v ps.length (pairCells ps)) (hB : B ≤ w.heap.size) (hl : ps.length ≤ 1000000) :
    ∃ v' w', Sem.run Tryz.prog (Builtin.append_ #[25, 25] 25 #[v, .slice (some ⟨w.heap.size, 0, none⟩) 2 2]) (al w [([.string (mkS p.1), .string (mkS p.2), .string (mkS q.1), .string (mkS q.2)], 38)]) = .ok v' w' ∧
      (w'.ownsRow B 38 2 v' (ps ++ [p, q]).length (pairCells (ps ++ [p, q])) ∧ Below B w w') := by
  obtain ⟨i0, hi, hz0, hz1, hz2⟩ := info_parts info38
  have hnews : ∀ (j : Nat) (u : Value), [Value.string (mkS p.1), Value.string (mkS p.2), Value.string (mkS q.1), Value.string (mkS q.2)][j]? = some u → (al w [([Value.string (mkS p.1), Value.string (mkS p.2), Value.string (mkS q.1), Value.string (mkS q.2)], 38)]).cell? ((⟨w.heap.size, 0, none⟩ : Addr).add j) = some u := by
    intro j u hj
    rcases j with _ | _ | _ | _ | j
    · simp at hj; subst hj; exact al_cell0 ..
    · simp at hj; subst hj
      simp only [push_cast]
    · simp at hj; subst hj
      simp only [push_cast]
    · simp at hj; subst hj
      simp only [push_cast]
    · simp at hj
  obtain ⟨v', w', h1, h2, h3, _⟩ := run_append_own (P := Tryz.prog) (al w [([.string (mkS p.1), .string (mkS p.2), .string (mkS q.1), .string (mkS q.2)], 38)]) B 25 25 38 i0 (.agg #[.string ⟨#[]⟩, .string ⟨#[]⟩]) 2 32 Tryz.underlying25 hi hz0 hz1 hz2 rfl (by decide) v ps.length (pairCells ps) (own_below hown (al_below _ _)) ⟨w.heap.size, 0, none⟩ 2 2 [.string (mkS p.1), .string (mkS p.2), .string (mkS q.1), .string (mkS q.2)] rfl hnews (by simp; exact ⟨rfl, rfl, rfl, rfl⟩) (by unfold maxLen; omega) (by omega) (by rw [al_size]; omega)
  · refine ⟨v', w', h1, ?_, ?_⟩
    · rw [show pairCells (ps ++ [p, q]) = pairCells ps ++ [.string (mkS p.1), .string (mkS p.2), .string (mkS q.1), .string (mkS q.2)] from by simp [pairCells], show (ps ++ [p, q]).length = ps.length + 2 from by simp]; exact h2
    · refine Below.grown ((al_below w _).mono hB) h3 (by rw [al_size]; omega) ?_
      intro k hk
      rcases hown.2 with ⟨rfl, _⟩ | ⟨g, cap, cur, rfl, hBg, _⟩
      · cases hk
      · cases hk; exact hBg
def hCT : Bytes := [67, 111, 110, 116, 101, 110, 116, 45, 84, 121, 112, 101]
def hAJ : Bytes := [97, 112, 112, 108, 105, 99, 97, 116, 105, 111, 110, 47, 106, 115, 111, 110]
def hCC : Bytes := [67, 97, 99, 104, 101, 45, 67, 111, 110, 116, 114, 111, 108]
def hNS : Bytes := [110, 111, 45, 115, 116, 111, 114, 101]
def hCL : Bytes := [67, 111, 110, 116, 101, 110, 116, 45, 76, 101, 110, 103, 116, 104]
/-- The header of an answer. -/
def hdrsA (body : Bytes) : List Pr := (if body = [] then [] else [(hCT, hAJ)]) ++ [(hCC, hNS), (hCL, Lib.decDigits body.length)]
/-- The bytes of an answer. -/
def bytesA (st : Int) (body : Bytes) : Bytes := [72, 84, 84, 80, 47, 49, 46, 49, 32] ++ Lib.decDigits st.toNat ++ [32] ++ wordS st ++ [13, 10] ++ hlsS (hdrsA body) ++ [13, 10] ++ body
def BytesR (st : Int) (body : Bytes) (e : Ending) (w' : World) : Prop :=
  (wordS st = [] ∧ e = .returned (.tuple #[.slice none 0 0, .int .i64 10])) ∨
  (wordS st ≠ [] ∧ 65536 < body.length ∧ e = .returned (.tuple #[.slice none 0 0, .int .i64 11])) ∨
  (wordS st ≠ [] ∧ body.length ≤ 65536 ∧ ∃ v, e = .returned (.tuple #[v, .int .i64 0]) ∧ BytesAt w' v (bytesA st body))
/-- The statuses that an answer may bear, with their words. -/
def tabS : List (Nat × Bytes) := [(200, [79, 75]), (201, [67, 114, 101, 97, 116, 101, 100]), (202, [65, 99, 99, 101, 112, 116, 101, 100]), (204, [78, 111, 32, 67, 111, 110, 116, 101, 110, 116]), (400, [66, 97, 100, 32, 82, 101, 113, 117, 101, 115, 116]), (401, [85, 110, 97, 117, 116, 104, 111, 114, 105, 122, 101, 100]), (403, [70, 111, 114, 98, 105, 100, 100, 101, 110]), (404, [78, 111, 116, 32, 70, 111, 117, 110, 100]), (405, [77, 101, 116, 104, 111, 100, 32, 78, 111, 116, 32, 65, 108, 108, 111, 119, 101, 100]), (409, [67, 111, 110, 102, 108, 105, 99, 116]), (413, [67, 111, 110, 116, 101, 110, 116, 32, 84, 111, 111, 32, 76, 97, 114, 103, 101]), (503, [83, 101, 114, 118, 105, 99, 101, 32, 85, 110, 97, 118, 97, 105, 108, 97, 98, 108, 101])]
theorem word_cases (st : Int) : wordS st = [] ∨ ∃ p ∈ tabS, st = p.1 ∧ wordS st = p.2 := by
  by_cases h0 : st = 200
  · subst h0; exact .inr ⟨(200, [79, 75]), by decide, rfl, rfl⟩
  by_cases h1 : st = 201
  · subst h1; exact .inr ⟨(201, [67, 114, 101, 97, 116, 101, 100]), by decide, rfl, rfl⟩
  by_cases h2 : st = 202
  · subst h2; exact .inr ⟨(202, [65, 99, 99, 101, 112, 116, 101, 100]), by decide, rfl, rfl⟩
  by_cases h3 : st = 204
  · subst h3; exact .inr ⟨(204, [78, 111, 32, 67, 111, 110, 116, 101, 110, 116]), by decide, rfl, rfl⟩
  by_cases h4 : st = 400
  · subst h4; exact .inr ⟨(400, [66, 97, 100, 32, 82, 101, 113, 117, 101, 115, 116]), by decide, rfl, rfl⟩
  by_cases h5 : st = 401
  · subst h5; exact .inr ⟨(401, [85, 110, 97, 117, 116, 104, 111, 114, 105, 122, 101, 100]), by decide, rfl, rfl⟩
  by_cases h6 : st = 403
  · subst h6; exact .inr ⟨(403, [70, 111, 114, 98, 105, 100, 100, 101, 110]), by decide, rfl, rfl⟩
  by_cases h7 : st = 404
  · subst h7; exact .inr ⟨(404, [78, 111, 116, 32, 70, 111, 117, 110, 100]), by decide, rfl, rfl⟩
  by_cases h8 : st = 405
  · subst h8; exact .inr ⟨(405, [77, 101, 116, 104, 111, 100, 32, 78, 111, 116, 32, 65, 108, 108, 111, 119, 101, 100]), by decide, rfl, rfl⟩
  by_cases h9 : st = 409
  · subst h9; exact .inr ⟨(409, [67, 111, 110, 102, 108, 105, 99, 116]), by decide, rfl, rfl⟩
  by_cases h10 : st = 413
  · subst h10; exact .inr ⟨(413, [67, 111, 110, 116, 101, 110, 116, 32, 84, 111, 111, 32, 76, 97, 114, 103, 101]), by decide, rfl, rfl⟩
  by_cases h11 : st = 503
  · subst h11; exact .inr ⟨(503, [83, 101, 114, 118, 105, 99, 101, 32, 85, 110, 97, 118, 97, 105, 108, 97, 98, 108, 101]), by decide, rfl, rfl⟩
  exact .inl (by unfold wordS; simp only [h0, h1, h2, h3, h4, h5, h6, h7, h8, h9, h10, h11, if_false])
theorem tabS_facts : ∀ p ∈ tabS, 200 ≤ p.1 ∧ p.1 ≤ 503 ∧ p.2.length ≤ 100 ∧ p.2 ≠ [] := by decide
theorem word_ne {st : Int} (h : wordS st ≠ []) : 200 ≤ st ∧ st ≤ 503 := by
  rcases word_cases st with h0 | ⟨p, hp, rfl, _⟩
  · exact absurd h0 h
  · have := tabS_facts p hp; omega
theorem word_len (st : Int) : (wordS st).length ≤ 100 := by
  rcases word_cases st with h0 | ⟨p, hp, _, h1⟩
  · rw [h0]; decide
  · rw [h1]; exact (tabS_facts p hp).2.2.1
theorem Bytes_ (st : Int) (vb : Value) (body : Bytes) (w : World) (hv : BytesAt w vb body) (hG : G w) :
    Calls Tryz.prog 15 #[.agg #[.int .i64 st, vb]] w fun e w' => BytesR st body e w' ∧ Below w.heap.size w w' := by
  obtain ⟨A, c, rfl⟩ : ∃ A c, vb = .slice A body.length c := by
    rcases hv with ⟨A, c, rfl, rfl⟩ | ⟨b, o, c, rfl, _⟩
    · exact ⟨_, _, rfl⟩
    · exact ⟨_, _, rfl⟩
  refine calls_X Tryz.func15 rfl Tryz.ntmps15 Tryz.results15 rfl rfl (by kernel_rfl) fun R hR => ?_
  simp only [push_cast, Nat.reduceBEq, Nat.reduceLeDiff, Nat.reduceAdd]
  refine (word_ st _).mono ?_
  rintro e w1 ⟨rfl, hw1⟩
  have hbl : Below w.heap.size w w1 := hw1 ▸ al_below _ _
  have hlt : w.heap.size < w1.heap.size := by rw [← hw1, al_size]; exact Nat.lt_succ_self _
  have c0 : w1.cell? ⟨w.heap.size, 0, none⟩ = some (.int .i64 st) := by rw [← hw1]; exact al_cell0 ..
  have c1 : w1.cell? ⟨w.heap.size, 1, none⟩ = some (.slice A body.length c) := by rw [← hw1]; exact al_cell0 ..
  clear hw1
  have hv1 := bytesAt_below hv hbl
  have hG1 : G w1 := hG.step hbl hG.size
  by_cases hw : wordS st = []
  · have q1 : decide (mkS (wordS st) = (⟨#[]⟩ : ByteArray)) = true := decide_eq_true (by rw [hw]; rfl)
    simp only [push_cast, Nat.reduceBEq, Nat.reduceLeDiff, Nat.reduceAdd, q1, c0, c1]
    exact hR _ _ ⟨.inl ⟨hw, rfl⟩, hbl⟩
  have q1 : decide (mkS (wordS st) = (⟨#[]⟩ : ByteArray)) = false := decide_eq_false (fun h => hw (by rw [← toL_mkS (wordS st), h]; rfl))
  have hst := word_ne hw
  by_cases h65 : 65536 < body.length
  · have q2 : decide ((body.length : Int) > 65536) = true := decide_eq_true (by omega)
    simp only [push_cast, Nat.reduceBEq, Nat.reduceLeDiff, Nat.reduceAdd, q1, q2, c0, c1]
    exact hR _ _ ⟨.inr (.inl ⟨hw, h65, rfl⟩), hbl⟩
  have q2 : decide ((body.length : Int) > 65536) = false := decide_eq_false (by omega)
  simp only [push_cast, Nat.reduceBEq, Nat.reduceLeDiff, Nat.reduceAdd, q1, q2, c0, c1, bld38_2]
  have hn : ∃ n : Nat, st = n := ⟨st.toNat, by omega⟩
  obtain ⟨n, rfl⟩ := hn
  have hwl := word_len n
  refine ⟨fun hc => ?_, fun hc => ?_⟩
  · have hne : body ≠ [] := by rintro rfl; simp at hc
    simp only [push_cast, Nat.reduceBEq, Nat.reduceLeDiff, Nat.reduceAdd, bsl25]
    refine getR_of (append25 w1 w1.heap.size (.slice none 0 0) [] (hCT, hAJ) (World.ownsRow_nil _ _ _ _) (Nat.le_refl _) (by decide)) ?_
    rintro v5 w2 ⟨hown, hb2⟩
    obtain ⟨ps, hps⟩ : ∃ ps, ps = ([] ++ [(hCT, hAJ)] : List Pr) := ⟨_, rfl⟩
    rw [← hps] at hown
    have hpl : ps.length ≤ 1 := by rw [hps]; decide
    have hH : hdrsA body = ps ++ [(hCC, hNS), (hCL, Lib.decDigits body.length)] := by rw [hps, hdrsA, if_neg hne]; rfl
    have hpp : ∀ p ∈ ps, p.1.length ≤ 100000 ∧ p.2.length ≤ 100000 := by rw [hps]; decide
    clear hps hne hc
    have hs2 := hb2.size
    have hv2 := bytesAt_below hv1 hb2
    have hG2 : G w2 := hG1.step hb2 hG1.size
    have d0 := (hb2.cell (p := ⟨w.heap.size, 0, none⟩) hlt).trans c0
    have d1 := (hb2.cell (p := ⟨w.heap.size, 1, none⟩) hlt).trans c1
    simp only [push_cast, Nat.reduceBEq, Nat.reduceLeDiff, Nat.reduceAdd, d0, d1, bld38_2]
    refine (itoa_ body.length (by omega) w2 hG2).mono ?_
    rintro e w3 ⟨rfl, hb3⟩
    have hs3 := hb3.size
    simp only [push_cast, Nat.reduceBEq, Nat.reduceLeDiff, Nat.reduceAdd, d0, d1, bld38_2, bsl25b]
    refine getR_of (append25b w3 w1.heap.size v5 ps (hCC, hNS) (hCL, Lib.decDigits body.length) (own_below hown hb3) (by omega) (by omega)) ?_
    rintro v6 w4 ⟨hown4, hb4⟩
    rw [← hH] at hown4
    have hb14 : Below w1.heap.size w1 w4 := (hb2.trans (hb3.mono hs2)).trans hb4
    have hs4 := hb4.size
    have hp4 := pairs_of_own hown4
    have hv4 := bytesAt_below hv1 hb14
    have hG4 : G w4 := hG1.step hb14 hG1.size
    have hlt4 : w.heap.size < w4.heap.size := by omega
    have k0 : cellC (Below w4.heap.size w4) ⟨w.heap.size, 0, none⟩ = _ := cellC_below hlt4 ((hb14.cell (p := ⟨w.heap.size, 0, none⟩) hlt).trans c0)
    have k1 : cellC (Below w4.heap.size w4) ⟨w.heap.size, 1, none⟩ = _ := cellC_below hlt4 ((hb14.cell (p := ⟨w.heap.size, 1, none⟩) hlt).trans c1)
    have jc : convC Tryz.prog (Below w4.heap.size w4) 22 9 (.slice A body.length c) = some (.string (mkS body)) :=
      convC_of w4 (Below.refl _ _) fun w' hw' => conv_back (bytesAt_below hv4 hw')
    simp only [push_cast, Nat.reduceBEq, Nat.reduceLeDiff, Nat.reduceAdd]
    refine law_planC (Below w4.heap.size w4) (.take 0 (.take 1 (.take 5 (.take 8 (.take 12 (.take 13 (.take 14 (.alt 2 (.take 3 (.take 4 (.take 6 (.take 7 (.alt 9 (.take 10 (.take 11 (.take 15 (.alt 16 (.take 17 (.take 18 (.done))) (.nil))))) (.nil)))))) (.nil)))))))) ) (by kernel_rfl) (by kernel_rfl) (by kernel_rfl) (Below.refl _ _).drew ?_
    simp only [push_cast, Nat.reduceBEq, Nat.reduceLeDiff, Nat.reduceAdd, k0, k1, jc, and_true]
    refine (itoa_ n (by omega) w4.drew (hG4.step (Below.refl _ _).drew hG4.size)).mono ?_
    rintro e w5 ⟨rfl, hb5⟩
    have hb45 : Below w4.heap.size w4 w5 := (Below.refl _ _).drew.trans hb5
    simp only [push_cast, Nat.reduceBEq, Nat.reduceLeDiff, Nat.reduceAdd, k0, k1, jc, and_true]
    have hpA : ∀ p ∈ hdrsA body, p.1.length ≤ 100000 ∧ p.2.length ≤ 100000 := by
      intro p hp
      rw [hH] at hp
      rcases List.mem_append.1 hp with hp | hp
      · exact hpp p hp
      · have := dd_le body.length
        rcases List.mem_cons.1 hp with rfl | hp
        · exact ⟨by show hCC.length ≤ 100000; decide, by show hNS.length ≤ 100000; decide⟩
        · rcases List.mem_singleton.1 hp with rfl
          exact ⟨by show hCL.length ≤ 100000; decide, by show (Lib.decDigits body.length).length ≤ 100000; omega⟩
    have hlA : (hdrsA body).length ≤ 3 := by rw [hH, List.length_append]; simp only [List.length_cons, List.length_nil]; omega
    have hll := hlsS_len (hdrsA body) hpA
    have hll2 : (hlsS (hdrsA body)).length ≤ 600012 := by omega
    have hdn := dd_le n
    have s1 : (⟨#[72, 84, 84, 80, 47, 49, 46, 49, 32]⟩ : ByteArray).size = 9 := rfl
    have s2 : (⟨#[32]⟩ : ByteArray).size = 1 := rfl
    have s3 : (⟨#[13, 10]⟩ : ByteArray).size = 2 := rfl
    simp only [ByteArray.size_append, size_mkS, s1, s2, s3]
    refine ⟨hb45, by omega, by omega, by omega, by omega, (lines_ v6 (hdrsA body) w5 (pairsAt_below hp4 hb45) (by omega) hpA).mono ?_⟩
    rintro e w6 ⟨rfl, hb6⟩
    have hb46 : Below w4.heap.size w4 w6 := hb45.trans (hb6.mono hb45.size)
    simp only [push_cast, Nat.reduceBEq, Nat.reduceLeDiff, Nat.reduceAdd, k0, k1, jc, and_true]
    have e0 : ⟨#[72, 84, 84, 80, 47, 49, 46, 49, 32]⟩ ++ mkS (Lib.decDigits n) ++ ⟨#[32]⟩ ++ mkS (wordS n) ++ ⟨#[13, 10]⟩ ++ mkS (hlsS (hdrsA body)) ++ ⟨#[13, 10]⟩ ++ mkS body = mkS (bytesA n body) := by
      simp only [bytesA, mkS_app2]; rfl
    rw [e0]
    simp only [ByteArray.size_append, size_mkS, s1, s2, s3]
    refine ⟨hb46, by omega, by omega, by omega, ?_⟩
    refine getR_of (conv_bytes (mkS (bytesA n body)) w6) ?_
    rintro v w7 ⟨hB7, hb7, _⟩
    rw [toL_mkS] at hB7
    have hb47 : Below w4.heap.size w4 w7 := hb46.trans (hb7.mono hb46.size)
    simp only [push_cast, Nat.reduceBEq, Nat.reduceLeDiff, Nat.reduceAdd, k0, k1, jc, and_true]
    have hwb : w.heap.size ≤ w1.heap.size := hbl.size
    exact ⟨hb47, hR _ _ ⟨.inr (.inr ⟨hw, by omega, v, rfl, hB7⟩), (hbl.trans (hb14.mono hwb)).trans (hb47.mono (by omega))⟩⟩
  · have hne : body = [] := by simp only [decide_eq_false_iff_not, Int.natCast_pos, Nat.not_lt, Nat.le_zero, List.length_eq_zero_iff] at hc; exact hc
    obtain ⟨w2, hw2⟩ : ∃ w2, w2 = w1 := ⟨_, rfl⟩
    rw [← hw2]
    have hb2 : Below w1.heap.size w1 w2 := by rw [hw2]; exact Below.refl _ _
    obtain ⟨v5, hv5⟩ : ∃ v5, v5 = Value.slice none 0 0 := ⟨_, rfl⟩
    obtain ⟨ps, hps⟩ : ∃ ps, ps = ([] : List Pr) := ⟨_, rfl⟩
    have hown : w2.ownsRow w1.heap.size 38 2 v5 ps.length (pairCells ps) := by rw [hps, hv5]; exact World.ownsRow_nil _ _ _ _
    have hpl : ps.length ≤ 1 := by rw [hps]; decide
    have hH : hdrsA body = ps ++ [(hCC, hNS), (hCL, Lib.decDigits body.length)] := by rw [hps, hdrsA, if_pos hne]
    have hpp : ∀ p ∈ ps, p.1.length ≤ 100000 ∧ p.2.length ≤ 100000 := by rw [hps]; simp
    rw [← hv5]
    clear hv5 hps hne hc hw2
    have hs2 := hb2.size
    have hv2 := bytesAt_below hv1 hb2
    have hG2 : G w2 := hG1.step hb2 hG1.size
    have d0 := (hb2.cell (p := ⟨w.heap.size, 0, none⟩) hlt).trans c0
    have d1 := (hb2.cell (p := ⟨w.heap.size, 1, none⟩) hlt).trans c1
    try simp only [push_cast, Nat.reduceBEq, Nat.reduceLeDiff, Nat.reduceAdd, d0, d1, bld38_2]
    refine (itoa_ body.length (by omega) w2 hG2).mono ?_
    rintro e w3 ⟨rfl, hb3⟩
    have hs3 := hb3.size
    simp only [push_cast, Nat.reduceBEq, Nat.reduceLeDiff, Nat.reduceAdd, d0, d1, bld38_2, bsl25b]
    refine getR_of (append25b w3 w1.heap.size v5 ps (hCC, hNS) (hCL, Lib.decDigits body.length) (own_below hown hb3) (by omega) (by omega)) ?_
    rintro v6 w4 ⟨hown4, hb4⟩
    rw [← hH] at hown4
    have hb14 : Below w1.heap.size w1 w4 := (hb2.trans (hb3.mono hs2)).trans hb4
    have hs4 := hb4.size
    have hp4 := pairs_of_own hown4
    have hv4 := bytesAt_below hv1 hb14
    have hG4 : G w4 := hG1.step hb14 hG1.size
    have hlt4 : w.heap.size < w4.heap.size := by omega
    have k0 : cellC (Below w4.heap.size w4) ⟨w.heap.size, 0, none⟩ = _ := cellC_below hlt4 ((hb14.cell (p := ⟨w.heap.size, 0, none⟩) hlt).trans c0)
    have k1 : cellC (Below w4.heap.size w4) ⟨w.heap.size, 1, none⟩ = _ := cellC_below hlt4 ((hb14.cell (p := ⟨w.heap.size, 1, none⟩) hlt).trans c1)
    have jc : convC Tryz.prog (Below w4.heap.size w4) 22 9 (.slice A body.length c) = some (.string (mkS body)) :=
      convC_of w4 (Below.refl _ _) fun w' hw' => conv_back (bytesAt_below hv4 hw')
    simp only [push_cast, Nat.reduceBEq, Nat.reduceLeDiff, Nat.reduceAdd]
    refine law_planC (Below w4.heap.size w4) (.take 0 (.take 1 (.take 5 (.take 8 (.take 12 (.take 13 (.take 14 (.alt 2 (.take 3 (.take 4 (.take 6 (.take 7 (.alt 9 (.take 10 (.take 11 (.take 15 (.alt 16 (.take 17 (.take 18 (.done))) (.nil))))) (.nil)))))) (.nil)))))))) ) (by kernel_rfl) (by kernel_rfl) (by kernel_rfl) (Below.refl _ _).drew ?_
    simp only [push_cast, Nat.reduceBEq, Nat.reduceLeDiff, Nat.reduceAdd, k0, k1, jc, and_true]
    refine (itoa_ n (by omega) w4.drew (hG4.step (Below.refl _ _).drew hG4.size)).mono ?_
    rintro e w5 ⟨rfl, hb5⟩
    have hb45 : Below w4.heap.size w4 w5 := (Below.refl _ _).drew.trans hb5
    simp only [push_cast, Nat.reduceBEq, Nat.reduceLeDiff, Nat.reduceAdd, k0, k1, jc, and_true]
    have hpA : ∀ p ∈ hdrsA body, p.1.length ≤ 100000 ∧ p.2.length ≤ 100000 := by
      intro p hp
      rw [hH] at hp
      rcases List.mem_append.1 hp with hp | hp
      · exact hpp p hp
      · have := dd_le body.length
        rcases List.mem_cons.1 hp with rfl | hp
        · exact ⟨by show hCC.length ≤ 100000; decide, by show hNS.length ≤ 100000; decide⟩
        · rcases List.mem_singleton.1 hp with rfl
          exact ⟨by show hCL.length ≤ 100000; decide, by show (Lib.decDigits body.length).length ≤ 100000; omega⟩
    have hlA : (hdrsA body).length ≤ 3 := by rw [hH, List.length_append]; simp only [List.length_cons, List.length_nil]; omega
    have hll := hlsS_len (hdrsA body) hpA
    have hll2 : (hlsS (hdrsA body)).length ≤ 600012 := by omega
    have hdn := dd_le n
    have s1 : (⟨#[72, 84, 84, 80, 47, 49, 46, 49, 32]⟩ : ByteArray).size = 9 := rfl
    have s2 : (⟨#[32]⟩ : ByteArray).size = 1 := rfl
    have s3 : (⟨#[13, 10]⟩ : ByteArray).size = 2 := rfl
    simp only [ByteArray.size_append, size_mkS, s1, s2, s3]
    refine ⟨hb45, by omega, by omega, by omega, by omega, (lines_ v6 (hdrsA body) w5 (pairsAt_below hp4 hb45) (by omega) hpA).mono ?_⟩
    rintro e w6 ⟨rfl, hb6⟩
    have hb46 : Below w4.heap.size w4 w6 := hb45.trans (hb6.mono hb45.size)
    simp only [push_cast, Nat.reduceBEq, Nat.reduceLeDiff, Nat.reduceAdd, k0, k1, jc, and_true]
    have e0 : ⟨#[72, 84, 84, 80, 47, 49, 46, 49, 32]⟩ ++ mkS (Lib.decDigits n) ++ ⟨#[32]⟩ ++ mkS (wordS n) ++ ⟨#[13, 10]⟩ ++ mkS (hlsS (hdrsA body)) ++ ⟨#[13, 10]⟩ ++ mkS body = mkS (bytesA n body) := by
      simp only [bytesA, mkS_app2]; rfl
    rw [e0]
    simp only [ByteArray.size_append, size_mkS, s1, s2, s3]
    refine ⟨hb46, by omega, by omega, by omega, ?_⟩
    refine getR_of (conv_bytes (mkS (bytesA n body)) w6) ?_
    rintro v w7 ⟨hB7, hb7, _⟩
    rw [toL_mkS] at hB7
    have hb47 : Below w4.heap.size w4 w7 := hb46.trans (hb7.mono hb46.size)
    simp only [push_cast, Nat.reduceBEq, Nat.reduceLeDiff, Nat.reduceAdd, k0, k1, jc, and_true]
    have hwb : w.heap.size ≤ w1.heap.size := hbl.size
    exact ⟨hb47, hR _ _ ⟨.inr (.inr ⟨hw, by omega, v, rfl, hB7⟩), (hbl.trans (hb14.mono hwb)).trans (hb47.mono (by omega))⟩⟩
end Go.Proofs.YtciepffocobgpaaGreatDoor
/-! What an answer's bytes are read as. -/
namespace Go.Proofs.YtciepffocobgpaaGreatDoor
open Go Go.Sx Go.RowKit
set_option linter.unusedSimpArgs false
set_option linter.unusedVariables false
theorem cutLine_app : ∀ (l rest : Bytes), (∀ c ∈ l, c ≠ 13) → cutLine (l ++ 13 :: 10 :: rest) = some (l, rest)
  | [], rest, _ => by simp [cutLine]
  | x :: r, rest, h => by
    have hx : x ≠ 13 := h x (List.mem_cons_self ..)
    rw [List.cons_append, cutLine, if_neg (fun hh => hx hh.1), cutLine_app r rest fun c hc => h c (List.mem_cons_of_mem _ hc)]
    rfl
theorem dd_mem (n : Nat) : ∀ c ∈ Lib.decDigits n, ∃ k, k < 10 ∧ c = UInt8.ofNat (48 + k) := by
  induction n using Nat.strongRecOn with
  | _ n ih =>
  rw [Lib.decDigits]
  split
  · rename_i h
    intro c hc
    rcases List.mem_singleton.1 hc with rfl
    exact ⟨n, h, rfl⟩
  · intro c hc
    rcases List.mem_append.1 hc with hc | hc
    · exact ih (n / 10) (by omega) c hc
    · rcases List.mem_singleton.1 hc with rfl
      exact ⟨n % 10, by omega, rfl⟩
theorem dig_all : ∀ k, k < 10 → UInt8.ofNat (48 + k) ∈ digC ∧ UInt8.ofNat (48 + k) ≠ 13 ∧ UInt8.ofNat (48 + k) ≠ 32 ∧ 32 ≤ (UInt8.ofNat (48 + k)).toNat ∧ (UInt8.ofNat (48 + k)).toNat ≤ 126 ∧ (UInt8.ofNat (48 + k)).toNat - 48 = k ∧ (UInt8.ofNat (48 + k) = 48 → k = 0) := by decide
theorem dd_all (n : Nat) : ∀ c ∈ Lib.decDigits n, c ∈ digC ∧ c ≠ 13 ∧ c ≠ 32 ∧ 32 ≤ c.toNat ∧ c.toNat ≤ 126 := by
  intro c hc
  obtain ⟨k, hk, rfl⟩ := dd_mem n c hc
  obtain ⟨h1, h2, h3, h4, h5, _⟩ := dig_all k hk
  exact ⟨h1, h2, h3, h4, h5⟩
theorem dd_ne (n : Nat) : Lib.decDigits n ≠ [] := by
  rw [Lib.decDigits]; split <;> simp
theorem dd_len : ∀ (k n : Nat), n < 10 ^ (k + 1) → (Lib.decDigits n).length ≤ k + 1
  | 0, n, h => by rw [Lib.decDigits, dif_pos (by omega)]; simp
  | k + 1, n, h => by
    rw [Lib.decDigits]
    split
    · simp
    · have := dd_len k (n / 10) (by rw [Nat.pow_succ] at h; omega)
      simp only [List.length_append, List.length_singleton]; omega
theorem dd_head (n : Nat) : n = 0 ∨ (Lib.decDigits n).head? ≠ some 48 := by
  induction n using Nat.strongRecOn with
  | _ n ih =>
  by_cases h0 : n = 0
  · exact .inl h0
  refine .inr ?_
  rw [Lib.decDigits]
  split
  · rename_i h
    intro hh
    simp only [List.head?_cons, Option.some.injEq] at hh
    exact h0 ((dig_all n h).2.2.2.2.2.2 hh)
  · rcases ih (n / 10) (by omega) with h | h
    · omega
    · have := dd_ne (n / 10)
      rcases hd : Lib.decDigits (n / 10) with _ | ⟨x, r⟩
      · exact absurd hd this
      · rw [hd] at h; exact h
theorem decN_dd (n : Nat) : decN (Lib.decDigits n) = n := by
  induction n using Nat.strongRecOn with
  | _ n ih =>
  rw [Lib.decDigits]
  split
  · rename_i h
    simp only [decN, List.foldl_cons, List.foldl_nil, (dig_all n h).2.2.2.2.2.1]; omega
  · have h1 := ih (n / 10) (by omega)
    have h2 := (dig_all (n % 10) (by omega)).2.2.2.2.2.1
    unfold decN at h1 ⊢
    rw [List.foldl_append, h1]
    simp only [List.foldl_cons, List.foldl_nil, h2]; omega
def d3 (n : Nat) : Bytes := [UInt8.ofNat (48 + n / 10 / 10), UInt8.ofNat (48 + n / 10 % 10), UInt8.ofNat (48 + n % 10)]
theorem dd3 (n : Nat) (h : 100 ≤ n) (h2 : n < 1000) : Lib.decDigits n = d3 n := by
  rw [Lib.decDigits, dif_neg (by omega), Lib.decDigits, dif_neg (by omega), Lib.decDigits, dif_pos (by omega)]; rfl
theorem tab_line : ∀ p ∈ tabS, ansLine (verB ++ d3 p.1 ++ [32] ++ p.2) = some (p.1 : Int) ∧ (∀ c ∈ verB ++ d3 p.1 ++ [32] ++ p.2, c ≠ 13) := by decide +kernel
theorem cut1_app (c : UInt8) : ∀ (l r : Bytes), (∀ x ∈ l, x ≠ c) → cut1 c (l ++ c :: r) = some (l, r)
  | [], r, _ => by simp [cut1]
  | x :: l, r, h => by
    rw [List.cons_append, cut1, if_neg (h x (List.mem_cons_self ..)), cut1_app c l r fun y hy => h y (List.mem_cons_of_mem _ hy)]; rfl
theorem trim_dd (n : Nat) : Lib.trimB (32 :: Lib.decDigits n) 32 = Lib.decDigits n := by
  have hall := dd_all n
  have hne := dd_ne n
  rcases hd : Lib.decDigits n with _ | ⟨x, r⟩
  · exact absurd hd hne
  · rw [hd] at hall
    have h1 : x ≠ 32 := (hall x (List.mem_cons_self ..)).2.2.1
    obtain ⟨a, y, hay⟩ : ∃ a y, x :: r = a ++ [y] := ⟨(x :: r).dropLast, (x :: r).getLast (by simp), (List.dropLast_concat_getLast _).symm⟩
    have h2 : y ≠ 32 := (hall y (by rw [hay]; simp)).2.2.1
    have e1 : Lib.trimLeftB (32 :: x :: r) 32 = x :: r := by rw [tl_cons, tl_stop x r h1]
    have e2 : Lib.trimRightB (32 :: x :: r) 32 = 32 :: x :: r := by
      rw [hay, ← List.cons_append, tr_stop _ y h2]
    have e3 : Lib.trimRightB (x :: r) 32 = x :: r := by rw [hay, tr_stop _ y h2]
    unfold Lib.trimB
    first
      | rw [e1, e3]
      | rw [e2, e1]
theorem hdr_cl (n : Nat) : hdrS (hCL ++ [58, 32] ++ Lib.decDigits n) = some (clen, Lib.decDigits n) := by
  have hall := dd_all n
  have htr := trim_dd n
  rw [hdrS, show hCL ++ [58, 32] ++ Lib.decDigits n = hCL ++ 58 :: (32 :: Lib.decDigits n) from by simp, cut1_app 58 hCL _ (by decide)]
  simp only
  rw [if_pos (by decide), if_pos, htr]
  · rfl
  · simp only [shownB, List.all_cons, List.all_eq_true, Bool.and_eq_true, decide_eq_true_eq]
    exact ⟨by decide, fun c hc => ⟨(hall c hc).2.2.2.1, (hall c hc).2.2.2.2⟩⟩
def lCC : Bytes := [99, 97, 99, 104, 101, 45, 99, 111, 110, 116, 114, 111, 108]
def lCT : Bytes := [99, 111, 110, 116, 101, 110, 116, 45, 116, 121, 112, 101]
theorem hdr_cc : hdrS (hCC ++ [58, 32] ++ hNS) = some (lCC, hNS) := by decide +kernel
theorem hdr_ct : hdrS (hCT ++ [58, 32] ++ hAJ) = some (lCT, hAJ) := by decide +kernel
theorem hdrsS_line (f : Nat) (acc : List Pr) (p h : Pr) (rest : Bytes) (h13 : ∀ c ∈ p.1 ++ [58, 32] ++ p.2, c ≠ 13) (hne : p.1 ≠ []) (hacc : acc.length < 32) (hh : hdrS (p.1 ++ [58, 32] ++ p.2) = some h) (hg : (getP acc h.1).isSome = false) :
    hdrsS (f + 1) acc (hlS p ++ rest) = hdrsS f (acc ++ [h]) rest := by
  rw [hdrsS, show hlS p ++ rest = (p.1 ++ [58, 32] ++ p.2) ++ 13 :: 10 :: rest from by simp [hlS], cutLine_app _ _ h13]
  simp only
  rw [if_neg (by simp), if_neg (by omega), hh]
  simp only [hg, Bool.false_eq_true, if_false]
theorem hdrsS_end (f : Nat) (acc : List Pr) (rest : Bytes) : hdrsS (f + 1) acc (13 :: 10 :: rest) = .ok (acc, rest) := by
  rw [hdrsS, show (13 : UInt8) :: 10 :: rest = [] ++ 13 :: 10 :: rest from rfl, cutLine_app [] _ (by simp)]
  simp only [if_true]
/-- The headers that a reader finds. -/
def readH (body : Bytes) : List Pr := (if body = [] then [] else [(lCT, hAJ)]) ++ [(lCC, hNS), (clen, Lib.decDigits body.length)]
theorem cl13 (n : Nat) : ∀ c ∈ hCL ++ [58, 32] ++ Lib.decDigits n, c ≠ 13 := by
  intro c hc
  rcases List.mem_append.1 hc with hc | hc
  · exact (by decide : ∀ c ∈ hCL ++ [58, 32], c ≠ 13) c hc
  · exact (dd_all n c hc).2.1
theorem hdrs_read (f : Nat) (body : Bytes) : hdrsS (f + 5) [] (hlsS (hdrsA body) ++ [13, 10] ++ body) = .ok (readH body, body) := by
  have tail : ∀ (g : Nat) (acc : List Pr), acc.length ≤ 1 → (getP acc lCC).isSome = false → (getP (acc ++ [(lCC, hNS)]) clen).isSome = false → hdrsS (g + 3) acc (hlS (hCC, hNS) ++ (hlS (hCL, Lib.decDigits body.length) ++ 13 :: 10 :: body)) = .ok (acc ++ [(lCC, hNS)] ++ [(clen, Lib.decDigits body.length)], body) := by
    intro g acc hl h1 h2
    rw [hdrsS_line (g + 2) acc (hCC, hNS) (lCC, hNS) _ (by decide) (by decide) (by omega) hdr_cc h1, hdrsS_line (g + 1) _ (hCL, Lib.decDigits body.length) (clen, Lib.decDigits body.length) _ (cl13 _) (show hCL ≠ [] from by decide) (by simp; omega) (hdr_cl _) h2, hdrsS_end]
  by_cases hb : body = []
  · have := tail (f + 2) [] (by simp) (by decide) (by decide)
    rw [hdrsA, if_pos hb, readH, if_pos hb]
    simpa [hlsS] using this
  · have := tail (f + 1) [(lCT, hAJ)] (by simp) (by decide) (by decide)
    rw [hdrsA, if_neg hb, readH, if_neg hb, show hlsS ([(hCT, hAJ)] ++ [(hCC, hNS), (hCL, Lib.decDigits body.length)]) ++ [13, 10] ++ body = hlS (hCT, hAJ) ++ (hlS (hCC, hNS) ++ (hlS (hCL, Lib.decDigits body.length) ++ 13 :: 10 :: body)) from by simp [hlsS], hdrsS_line (f + 4) [] (hCT, hAJ) (lCT, hAJ) _ (by decide) (by decide) (by simp) hdr_ct (by decide)]
    simpa using this
theorem getP_clen (body : Bytes) : getP (readH body) clen = some (Lib.decDigits body.length) ∧ getP (readH body) tenc = none := by
  unfold readH
  by_cases hb : body = []
  · rw [if_pos hb]
    constructor
    · simp only [getP, List.nil_append, List.find?_cons, show (lCC == clen) = false from by decide, show (clen == clen) = true from by decide]; rfl
    · simp only [getP, List.nil_append, List.find?_cons, show (lCC == tenc) = false from by decide, show (clen == tenc) = false from by decide]; rfl
  · rw [if_neg hb]
    constructor
    · simp only [getP, List.cons_append, List.nil_append, List.find?_cons, show (lCT == clen) = false from by decide, show (lCC == clen) = false from by decide, show (clen == clen) = true from by decide]; rfl
    · simp only [getP, List.cons_append, List.nil_append, List.find?_cons, show (lCT == tenc) = false from by decide, show (lCC == tenc) = false from by decide, show (clen == tenc) = false from by decide]; rfl
theorem body_read (body : Bytes) (hl : body.length ≤ 65536) : bodyS (readH body) body 65536 = .ok body := by
  obtain ⟨h1, h2⟩ := getP_clen body
  have hall := dd_all body.length
  have hlen := dd_len 5 body.length (by omega)
  have hne := dd_ne body.length
  rw [bodyS, h2, if_neg (by simp), countS, h1]
  simp only
  rw [if_pos, if_pos, if_pos]
  · simp only [decN_dd, if_true]
  · rw [decN_dd]; omega
  · rcases dd_head body.length with h | h
    · refine .inl ?_
      rw [h, Lib.decDigits]; rfl
    · exact .inr h
  · simp only [ofB, Bool.and_eq_true, List.all_eq_true, decide_eq_true_eq, Bool.not_eq_true', List.isEmpty_eq_false_iff]
    exact ⟨⟨hne, by omega⟩, fun c hc => by simpa using (hall c hc).1⟩
theorem lines_short (body : Bytes) (hl : body.length ≤ 65536) : (hlsS (hdrsA body)).length ≤ 200 := by
  have hlen := dd_len 5 body.length (by omega)
  have e : ∀ p : Pr, (hlS p).length = p.1.length + p.2.length + 4 := fun p => by simp [hlS]; omega
  unfold hdrsA hlsS
  by_cases hb : body = []
  · rw [if_pos hb]
    simp only [List.nil_append, List.flatMap_cons, List.flatMap_nil, List.length_append, e, List.length_nil, show hCC.length = 13 from rfl, show hNS.length = 8 from rfl, show hCL.length = 14 from rfl]; omega
  · rw [if_neg hb]
    simp only [List.cons_append, List.nil_append, List.flatMap_cons, List.flatMap_nil, List.length_append, e, List.length_nil, show hCC.length = 13 from rfl, show hNS.length = 8 from rfl, show hCL.length = 14 from rfl, show hCT.length = 12 from rfl, show hAJ.length = 16 from rfl]; omega
theorem ans_read (st : Int) (body : Bytes) (hw : wordS st ≠ []) (hl : body.length ≤ 65536) : ansS (bytesA st body) = .ok (st, body) ∧ (bytesA st body).length ≤ 81920 := by
  rcases word_cases st with h0 | ⟨p, hp, rfl, hwp⟩
  · exact absurd h0 hw
  obtain ⟨f1, f2, f3, f4⟩ := tabS_facts p hp
  obtain ⟨t1, t2⟩ := tab_line p hp
  have hls := lines_short body hl
  have e0 : bytesA p.1 body = (verB ++ d3 p.1 ++ [32] ++ p.2) ++ 13 :: 10 :: (hlsS (hdrsA body) ++ [13, 10] ++ body) := by
    rw [bytesA, hwp, Int.toNat_natCast, dd3 p.1 (by omega) (by omega)]; simp [verB]
  have hlen : (bytesA p.1 body).length ≤ 81920 := by
    rw [e0]; simp only [List.length_append, List.length_cons, List.length_nil, d3, verB]; omega
  refine ⟨?_, hlen⟩
  rw [ansS, if_neg (by omega), e0, cutLine_app _ _ t2]
  simp only [t1]
  have hrd := hdrs_read (hlsS (hdrsA body) ++ [13, 10] ++ body).length body
  rw [hdrsS_fuel _ ((hlsS (hdrsA body) ++ [13, 10] ++ body).length + 1) [] _ (by omega) (by omega)] at hrd
  rw [hrd]
  simp only [body_read body hl]
end Go.Proofs.YtciepffocobgpaaGreatDoor
namespace Go.Proofs.YtciepffocobgpaaGreatDoor
open Go Go.Sx Go.RowKit
set_option linter.unusedSimpArgs false
set_option linter.unusedVariables false
abbrev stC : List Value := [.int .i64 200, .int .i64 201, .int .i64 202, .int .i64 204, .int .i64 400, .int .i64 401, .int .i64 403, .int .i64 404, .int .i64 405, .int .i64 409, .int .i64 413, .int .i64 503]
abbrev stW : List Value := [.string ⟨#[79, 75]⟩, .string ⟨#[67, 114, 101, 97, 116, 101, 100]⟩, .string ⟨#[65, 99, 99, 101, 112, 116, 101, 100]⟩, .string ⟨#[78, 111, 32, 67, 111, 110, 116, 101, 110, 116]⟩, .string ⟨#[66, 97, 100, 32, 82, 101, 113, 117, 101, 115, 116]⟩, .string ⟨#[85, 110, 97, 117, 116, 104, 111, 114, 105, 122, 101, 100]⟩, .string ⟨#[70, 111, 114, 98, 105, 100, 100, 101, 110]⟩, .string ⟨#[78, 111, 116, 32, 70, 111, 117, 110, 100]⟩, .string ⟨#[77, 101, 116, 104, 111, 100, 32, 78, 111, 116, 32, 65, 108, 108, 111, 119, 101, 100]⟩, .string ⟨#[67, 111, 110, 102, 108, 105, 99, 116]⟩, .string ⟨#[67, 111, 110, 116, 101, 110, 116, 32, 84, 111, 111, 32, 76, 97, 114, 103, 101]⟩, .string ⟨#[83, 101, 114, 118, 105, 99, 101, 32, 85, 110, 97, 118, 97, 105, 108, 97, 98, 108, 101]⟩]
theorem bsl50 (N : Nat) (hN : N = 12) (w : World) : Sem.run Tryz.prog (Instr.buildSlice 50 12 #[(0, .int .i64 200), (1, .int .i64 201), (2, .int .i64 202), (3, .int .i64 204), (4, .int .i64 400), (5, .int .i64 401), (6, .int .i64 403), (7, .int .i64 404), (8, .int .i64 405), (9, .int .i64 409), (10, .int .i64 413), (11, .int .i64 503)]) w = .ok (.slice (some ⟨w.heap.size, 0, none⟩) N N) (w.alloc (.cells #[.int .i64 200, .int .i64 201, .int .i64 202, .int .i64 204, .int .i64 400, .int .i64 401, .int .i64 403, .int .i64 404, .int .i64 405, .int .i64 409, .int .i64 413, .int .i64 503] 3)) := by subst hN; kernel_rfl
theorem bsl34s (N : Nat) (hN : N = 12) (w : World) : Sem.run Tryz.prog (Instr.buildSlice 34 12 #[(0, .string ⟨#[79, 75]⟩), (1, .string ⟨#[67, 114, 101, 97, 116, 101, 100]⟩), (2, .string ⟨#[65, 99, 99, 101, 112, 116, 101, 100]⟩), (3, .string ⟨#[78, 111, 32, 67, 111, 110, 116, 101, 110, 116]⟩), (4, .string ⟨#[66, 97, 100, 32, 82, 101, 113, 117, 101, 115, 116]⟩), (5, .string ⟨#[85, 110, 97, 117, 116, 104, 111, 114, 105, 122, 101, 100]⟩), (6, .string ⟨#[70, 111, 114, 98, 105, 100, 100, 101, 110]⟩), (7, .string ⟨#[78, 111, 116, 32, 70, 111, 117, 110, 100]⟩), (8, .string ⟨#[77, 101, 116, 104, 111, 100, 32, 78, 111, 116, 32, 65, 108, 108, 111, 119, 101, 100]⟩), (9, .string ⟨#[67, 111, 110, 102, 108, 105, 99, 116]⟩), (10, .string ⟨#[67, 111, 110, 116, 101, 110, 116, 32, 84, 111, 111, 32, 76, 97, 114, 103, 101]⟩), (11, .string ⟨#[83, 101, 114, 118, 105, 99, 101, 32, 85, 110, 97, 118, 97, 105, 108, 97, 98, 108, 101]⟩)]) w = .ok (.slice (some ⟨w.heap.size, 0, none⟩) N N) (w.alloc (.cells #[.string ⟨#[79, 75]⟩, .string ⟨#[67, 114, 101, 97, 116, 101, 100]⟩, .string ⟨#[65, 99, 99, 101, 112, 116, 101, 100]⟩, .string ⟨#[78, 111, 32, 67, 111, 110, 116, 101, 110, 116]⟩, .string ⟨#[66, 97, 100, 32, 82, 101, 113, 117, 101, 115, 116]⟩, .string ⟨#[85, 110, 97, 117, 116, 104, 111, 114, 105, 122, 101, 100]⟩, .string ⟨#[70, 111, 114, 98, 105, 100, 100, 101, 110]⟩, .string ⟨#[78, 111, 116, 32, 70, 111, 117, 110, 100]⟩, .string ⟨#[77, 101, 116, 104, 111, 100, 32, 78, 111, 116, 32, 65, 108, 108, 111, 119, 101, 100]⟩, .string ⟨#[67, 111, 110, 102, 108, 105, 99, 116]⟩, .string ⟨#[67, 111, 110, 116, 101, 110, 116, 32, 84, 111, 111, 32, 76, 97, 114, 103, 101]⟩, .string ⟨#[83, 101, 114, 118, 105, 99, 101, 32, 85, 110, 97, 118, 97, 105, 108, 97, 98, 108, 101]⟩] 9)) := by subst hN; kernel_rfl
theorem stC_at : ∀ (j : Nat) p, tabS[j]? = some p → stC[j]? = some (.int .i64 p.1) ∧ stW[j]? = some (.string (mkS p.2)) := by
  intro j p h
  rcases j with _ | _ | _ | _ | _ | _ | _ | _ | _ | _ | _ | _ | j
  all_goals first | (simp only [tabS, List.getElem?_cons_zero, List.getElem?_cons_succ, Option.some.injEq] at h; subst h; exact ⟨rfl, rfl⟩) | (simp [tabS] at h)
theorem tab_word : ∀ p ∈ tabS, wordS p.1 = p.2 := by decide
/-- As law_planC; what follows stays out of sight. -/
theorem law_planK {P : Program} {N : Nat} {id : Nat} {ops : Array Oper} {Q : Post} {e : Env} {w : World} (C : World → Prop) (p : Pl) (hm : P.follows .mixedOrders = true) (hs : Region.noSelect ops = true) (hp : (p.okC .any ops true (Array.replicate ops.size false) && decide (p.depth ≤ ops.size)) = true)
    (hC : C w.drew) (h : ∀ K : Env → World → Prop, (∀ e w, Q .normal e w → K e w) → XC P ops C K p e w.drew) : Law P N (.region id ops true) Q e w := law_planC C p hm hs hp hC (h _ fun _ _ h => h)
set_option maxRecDepth 20000 in
theorem HttpAnswers_ (st : Int) (v : Value) (l : Bytes) (w : World) (hG : G w) (hv : BytesAt w v l) :
    Calls Tryz.prog 5 #[.int .i64 st, v] w fun e w' => e = .returned (.bool true) ∧ Below w.heap.size w w' := by
  obtain ⟨A, c, rfl, hcells⟩ := bytesAt_shape hv
  clear hcells
  refine calls_X Tryz.func5 rfl Tryz.ntmps5 Tryz.results5 rfl rfl (by kernel_rfl) fun R hR => ?_
  simp only [push_cast, Nat.reduceBEq, Nat.reduceLeDiff, Nat.reduceAdd]
  refine (anchor_ w hG).mono ?_
  rintro e w1 ⟨rfl, hb1⟩
  have hv1 := bytesAt_below hv hb1
  have hG1 := hG.step hb1 hG.size
  simp only [push_cast, Nat.reduceBEq, Nat.reduceLeDiff, Nat.reduceAdd]
  refine ⟨fun _ => hR _ _ ⟨rfl, hb1⟩, fun hm => ?_⟩
  have hm2 : l.length ≤ 2000 ∨ 65536 < l.length := by
    simp only [Bool.and_eq_false_iff, decide_eq_false_iff_not] at hm
    omega
  clear hm
  obtain ⟨N, hN⟩ : ∃ N, N = 12 := ⟨_, rfl⟩
  simp only [push_cast, Nat.reduceBEq, Nat.reduceLeDiff, Nat.reduceAdd, bsl50 N hN, bsl34s N hN]
  obtain ⟨w2, hw2⟩ : ∃ w2, w2 = al w1 [(stC, 3), (stW, 9)] := ⟨_, rfl⟩
  rw [← hw2]
  have hs2 : w2.heap.size = w1.heap.size + 2 := by rw [hw2, al_size]; rfl
  have hb2 : Below w1.heap.size w1 w2 := by rw [hw2]; exact al_below _ _
  have hC : ∀ (j : Nat) x, stC[j]? = some x → w2.cell? ⟨w1.heap.size, j, none⟩ = some x := fun j x h => by rw [hw2, al_cell0]; exact h
  have hW : ∀ (j : Nat) x, stW[j]? = some x → w2.cell? ⟨w1.heap.size + 1, j, none⟩ = some x := fun j x h => by rw [hw2, al_cell]; exact h
  clear hw2
  have hv2 := bytesAt_below hv1 hb2
  have hG2 := hG1.step hb2 hG1.size
  have hb02 := hb1.trans (hb2.mono hb1.size)
  have hs02 := hb02.size
  clear hb2 hv1 hG1 hb1
  generalize w1.heap.size = sb at *
  simp only [push_cast, Nat.reduceBEq, Nat.reduceLeDiff, Nat.reduceAdd, bld45]
  refine (Bytes_ st _ l w2 hv2 hG2).mono ?_
  rintro e w3 ⟨hP, hb3⟩
  have hs3 := hb3.size
  have hv3 := bytesAt_below hv2 hb3
  have hG3 := hG2.step hb3 hG2.size
  have hb03 := hb02.trans (hb3.mono hs02)
  have hT3 : ∀ (j : Nat) p, tabS[j]? = some p → w3.cell? ⟨sb, j * 1, none⟩ = some (.int .i64 p.1) ∧ w3.cell? ⟨sb + 1, j * 1, none⟩ = some (.string (mkS p.2)) := fun j p h => by
    rw [Nat.mul_one]
    exact ⟨(hb3.cell (p := ⟨sb, j, none⟩) (show sb < _ by omega)).trans (hC j _ (stC_at j p h).1), (hb3.cell (p := ⟨sb + 1, j, none⟩) (show sb + 1 < _ by omega)).trans (hW j _ (stC_at j p h).2)⟩
  have hlt3 : sb + 1 < w3.heap.size := by omega
  have hs03 : w.heap.size ≤ w3.heap.size := by omega
  clear hC hW hb3 hv2 hG2 hb02 hs02 hs3 hs2 hv hG
  have key : ∀ (k : Nat), k < 12 → ∃ p, tabS[k]? = some p ∧ p ∈ tabS := fun k hk => ⟨tabS[k]'hk, List.getElem?_eq_getElem hk, List.getElem_mem _⟩
  rcases hP with ⟨hw, rfl⟩ | ⟨hw, h65, rfl⟩ | ⟨hw, h65, va, rfl, hBa⟩
  · simp only [push_cast, Nat.reduceBEq, Nat.reduceLeDiff, Nat.reduceAdd]
    refine law_loop [(4, 4), (9, 13), (35, 109)] (fun n h w' => ∃ k : Nat, k ≤ 12 ∧ n = 12 - k ∧ h 35 = .int .i64 k ∧ Below w3.heap.size w3 w') 12 ⟨0, by omega, by omega, rfl, Below.refl _ _⟩ ?_
    rintro n h w4 ⟨k, hk, hn, h35, hb4⟩ T hT
    by_cases hkl : k < 12
    · obtain ⟨p, hp, hpm⟩ := key k hkl
      obtain ⟨c1, c2⟩ := hT3 k p hp
      rw [← hb4.cell (p := ⟨sb, _, none⟩) (show sb < _ by omega)] at c1
      have q1 : decide ((k : Int) < N) = true := decide_eq_true (by omega)
      have q2 : decide ((p.1 : Int) ≠ st) = true := decide_eq_true (fun he => by
        rw [← he, tab_word p hpm] at hw; exact (tabS_facts p hpm).2.2.2 hw)
      simp only [push_cast, Nat.reduceBEq, Nat.reduceLeDiff, Nat.reduceAdd, h35, q1, c1, q2]
      refine ⟨⟨by omega, by omega⟩, hT (12 - (k + 1)) _ _ (by simp only [push_cast, Nat.reduceBEq, Nat.reduceLeDiff]) (by omega) ⟨k + 1, by omega, rfl, ?_, hb4⟩⟩
      simp only [push_cast, Nat.reduceBEq, Nat.reduceLeDiff]; rw [w64 (by omega) (by omega)]
    · have q1 : decide ((k : Int) < N) = false := decide_eq_false (by omega)
      simp only [push_cast, Nat.reduceBEq, Nat.reduceLeDiff, Nat.reduceAdd, h35, q1]
      exact hR _ _ ⟨rfl, hb03.trans (hb4.mono hs03)⟩
  · simp only [push_cast, Nat.reduceBEq, Nat.reduceLeDiff, Nat.reduceAdd]
    refine law_loop [(4, 4), (9, 13), (35, 109)] (fun n h w' => ∃ k : Nat, k ≤ 12 ∧ n = 12 - k ∧ h 35 = .int .i64 k ∧ (∀ (j : Nat) p, j < k → tabS[j]? = some p → st ≠ p.1) ∧ Below w3.heap.size w3 w') 12 ⟨0, by omega, by omega, rfl, fun j p hj => by omega, Below.refl _ _⟩ ?_
    rintro n h w4 ⟨k, hk, hn, h35, hno, hb4⟩ T hT
    by_cases hkl : k < 12
    · obtain ⟨p, hp, hpm⟩ := key k hkl
      obtain ⟨c1, c2⟩ := hT3 k p hp
      rw [← hb4.cell (p := ⟨sb, _, none⟩) (show sb < _ by omega)] at c1
      have q1 : decide ((k : Int) < N) = true := decide_eq_true (by omega)
      by_cases he : st = (p.1 : Int)
      · have q2 : decide ((p.1 : Int) ≠ st) = false := decide_eq_false (fun hh => hh he.symm)
        have q3 : decide ((l.length : Int) > 65536) = true := decide_eq_true (by omega)
        simp only [push_cast, Nat.reduceBEq, Nat.reduceLeDiff, Nat.reduceAdd, h35, q1, c1, q2, q3]
        exact ⟨⟨by omega, by omega⟩, hR _ _ ⟨rfl, hb03.trans (hb4.mono hs03)⟩⟩
      · have q2 : decide ((p.1 : Int) ≠ st) = true := decide_eq_true (fun hh => he hh.symm)
        simp only [push_cast, Nat.reduceBEq, Nat.reduceLeDiff, Nat.reduceAdd, h35, q1, c1, q2]
        refine ⟨⟨by omega, by omega⟩, hT (12 - (k + 1)) _ _ (by simp only [push_cast, Nat.reduceBEq, Nat.reduceLeDiff]) (by omega) ⟨k + 1, by omega, rfl, ?_, fun j q hj hq => ?_, hb4⟩⟩
        · simp only [push_cast, Nat.reduceBEq, Nat.reduceLeDiff]; rw [w64 (by omega) (by omega)]
        · rcases Nat.lt_or_ge j k with h1 | h1
          · exact hno j q h1 hq
          · obtain rfl : j = k := by omega
            rw [hp] at hq; cases hq; exact he
    · exfalso
      rcases word_cases st with h0 | ⟨p, hp, h1, _⟩
      · exact hw h0
      · obtain ⟨j, hj⟩ := List.mem_iff_getElem?.1 hp
        have hj12 : j < 12 := by
          have := (List.getElem?_eq_some_iff.1 hj).1; exact this
        exact hno j p (by omega) hj h1
  · have hl2 : l.length ≤ 2000 := by omega
    simp only [push_cast, Nat.reduceBEq, Nat.reduceLeDiff, Nat.reduceAdd]
    obtain ⟨b1, b2⟩ := cl_bytes hBa
    refine law_loop [(4, 4), (9, 13), (35, 109)] (fun n h w' => ∃ k : Nat, k ≤ 12 ∧ n = 12 - k ∧ h 35 = .int .i64 k ∧ (∀ (j : Nat) p, j < k → tabS[j]? = some p → st ≠ p.1) ∧ Below w3.heap.size w3 w') 12 ⟨0, by omega, by omega, rfl, fun j p hj => by omega, Below.refl _ _⟩ ?_
    rintro n h w4 ⟨k, hk, hn, h35, hno, hb4⟩ T hT
    by_cases hkl : k < 12
    · obtain ⟨p, hp, hpm⟩ := key k hkl
      obtain ⟨c1, c2⟩ := hT3 k p hp
      rw [← hb4.cell (p := ⟨sb, _, none⟩) (show sb < _ by omega)] at c1
      rw [← hb4.cell (p := ⟨sb + 1, _, none⟩) (show sb + 1 < _ by omega)] at c2
      have q1 : decide ((k : Int) < N) = true := decide_eq_true (by omega)
      by_cases he : st = (p.1 : Int)
      · have q2 : decide ((p.1 : Int) ≠ st) = false := decide_eq_false (fun hh => hh he.symm)
        have q3 : decide ((l.length : Int) > 65536) = false := decide_eq_false (by omega)
        simp only [push_cast, Nat.reduceBEq, Nat.reduceLeDiff, Nat.reduceAdd, h35, q1, c1, q2, q3]
        refine ⟨⟨by omega, by omega⟩, ?_⟩
        subst he
        have hwp := tab_word p hpm
        obtain ⟨f1, f2, f3, f4⟩ := tabS_facts p hpm
        have hlt4 : sb + 1 < w4.heap.size := Nat.lt_of_lt_of_le hlt3 hb4.size
        have kW : cellC (Below w4.heap.size w4) ⟨sb + 1, k * 1, none⟩ = _ := cellC_below hlt4 c2
        have hv4 := bytesAt_below hv3 hb4
        have hG4 := hG3.step hb4 hG3.size
        have hBa4 := bytesAt_below hBa hb4
        have qk : (0 ≤ (k : Int)) ∧ (k : Int) < N := ⟨by omega, by omega⟩
        have s1 : (⟨#[72, 84, 84, 80, 47, 49, 46, 49, 32]⟩ : ByteArray).size = 9 := rfl
        have s2 : (⟨#[32]⟩ : ByteArray).size = 1 := rfl
        have s3 : (⟨#[13, 10]⟩ : ByteArray).size = 2 := rfl
        have hdn := dd_le p.1
        have hdl := dd_le l.length
        refine law_planC (Below w4.heap.size w4) (.take 0 (.take 4 (.take 5 (.take 6 (.take 7 (.alt 1 (.take 2 (.take 3 (.take 8 (.take 9 (.take 10 (.done)))))) (.nil))))))) (by kernel_rfl) (by kernel_rfl) (by kernel_rfl) (Below.refl _ _).drew ?_
        simp only [push_cast, Nat.reduceBEq, Nat.reduceLeDiff, Nat.reduceAdd, kW, and_true, h35]
        refine ⟨⟨by omega, by omega⟩, (rNum p.1 (by omega) w4.drew).mono ?_⟩
        rintro e w5 ⟨rfl, hb5⟩
        have hb45 : Below w4.heap.size w4 w5 := (Below.refl _ _).drew.trans hb5
        simp only [push_cast, Nat.reduceBEq, Nat.reduceLeDiff, Nat.reduceAdd, kW, and_true, h35]
        have e1 : ⟨#[72, 84, 84, 80, 47, 49, 46, 49, 32]⟩ ++ mkS (Lib.decDigits p.1) ++ ⟨#[32]⟩ ++ mkS p.2 ++ ⟨#[13, 10]⟩ = mkS (verB ++ Lib.decDigits p.1 ++ [32] ++ p.2 ++ [13, 10]) := by
          simp only [mkS_app2]; rfl
        obtain ⟨X1, hX1⟩ : ∃ X, X = mkS (verB ++ Lib.decDigits p.1 ++ [32] ++ p.2 ++ [13, 10]) := ⟨_, rfl⟩
        rw [e1, ← hX1]
        have s4 : (⟨#[67, 97, 99, 104, 101, 45, 67, 111, 110, 116, 114, 111, 108, 58, 32, 110, 111, 45, 115, 116, 111, 114, 101, 13, 10, 67, 111, 110, 116, 101, 110, 116, 45, 76, 101, 110, 103, 116, 104, 58, 32]⟩ : ByteArray).size = 41 := rfl
        have s5 : (⟨#[13, 10, 13, 10]⟩ : ByteArray).size = 4 := rfl
        have s6 : (⟨#[67, 111, 110, 116, 101, 110, 116, 45, 84, 121, 112, 101, 58, 32, 97, 112, 112, 108, 105, 99, 97, 116, 105, 111, 110, 47, 106, 115, 111, 110, 13, 10]⟩ : ByteArray).size = 32 := rfl
        have hal : (verB ++ Lib.decDigits p.1 ++ [32] ++ p.2 ++ [13, 10]).length ≤ 700 := by
          simp only [List.length_append, List.length_cons, List.length_nil, verB]; omega
        have hXs : X1.size ≤ 700 := by rw [hX1, size_mkS]; exact hal
        simp only [ByteArray.size_append, size_mkS, s1, s2, s3]
        refine ⟨hb45, by omega, by omega, by omega, by omega, fun hc => ?_, fun hc => ?_⟩
        · have hl0 : l ≠ [] := by rintro rfl; simp at hc
          have e2 : (X1 ++ ⟨#[67, 111, 110, 116, 101, 110, 116, 45, 84, 121, 112, 101, 58, 32, 97, 112, 112, 108, 105, 99, 97, 116, 105, 111, 110, 47, 106, 115, 111, 110, 13, 10]⟩) ++ (⟨#[67, 97, 99, 104, 101, 45, 67, 111, 110, 116, 114, 111, 108, 58, 32, 110, 111, 45, 115, 116, 111, 114, 101, 13, 10, 67, 111, 110, 116, 101, 110, 116, 45, 76, 101, 110, 103, 116, 104, 58, 32]⟩ ++ mkS (Lib.decDigits l.length) ++ ⟨#[13, 10, 13, 10]⟩ ++ mkS l) = mkS (bytesA p.1 l) := by
            have : bytesA p.1 l = (verB ++ Lib.decDigits p.1 ++ [32] ++ p.2 ++ [13, 10] ++ [67, 111, 110, 116, 101, 110, 116, 45, 84, 121, 112, 101, 58, 32, 97, 112, 112, 108, 105, 99, 97, 116, 105, 111, 110, 47, 106, 115, 111, 110, 13, 10]) ++ ([67, 97, 99, 104, 101, 45, 67, 111, 110, 116, 114, 111, 108, 58, 32, 110, 111, 45, 115, 116, 111, 114, 101, 13, 10, 67, 111, 110, 116, 101, 110, 116, 45, 76, 101, 110, 103, 116, 104, 58, 32] ++ Lib.decDigits l.length ++ [13, 10, 13, 10] ++ l) := by
              simp [bytesA, hwp, hdrsA, hl0, hlsS, hlS, hCT, hAJ, hCC, hNS, hCL, verB]
            rw [this, hX1]; simp only [mkS_app2]; rfl
          simp only [ByteArray.size_append, size_mkS, s6]
          refine ⟨by omega, ?_⟩
          have hb35 := hb4.trans (hb45.mono hb4.size)
          have hs5 := hb45.size
          have hv5 := bytesAt_below hv4 hb45
          have jc : convC Tryz.prog (Below w5.heap.size w5) 22 9 (.slice A l.length c) = some (.string (mkS l)) :=
            convC_of w5 (Below.refl _ _) fun w' hw' => conv_back (bytesAt_below hv5 hw')
          refine law_planK (Below w5.heap.size w5) (.take 0 (.take 1 (.take 2 (.take 6 (.take 7 (.alt 3 (.take 4 (.take 5 (.take 8 (.take 9 (.take 10 (.done)))))) (.nil))))))) (by kernel_rfl) (by kernel_rfl) (by kernel_rfl) (Below.refl _ _).drew ?_
          intro K hK
          simp only [push_cast, Nat.reduceBEq, Nat.reduceLeDiff, Nat.reduceAdd, jc, and_true]
          refine (rNum l.length (by omega) w5.drew).mono ?_
          rintro e w6 ⟨rfl, hb6⟩
          have hb56 : Below w5.heap.size w5 w6 := (Below.refl _ _).drew.trans hb6
          simp only [push_cast, Nat.reduceBEq, Nat.reduceLeDiff, Nat.reduceAdd, jc, and_true]
          rw [e2]
          simp only [ByteArray.size_append, size_mkS, s1, s2, s3, s4, s5]
          refine ⟨hb56, by omega, by omega, by omega, by omega, hK _ _ ?_⟩
          clear hK
          simp only [push_cast, Nat.reduceBEq, Nat.reduceLeDiff, Nat.reduceAdd]
          have hb46 := hb45.trans (hb56.mono hs5)
          have hb36 := hb35.trans (hb56.mono (by have := hb35.size; omega))
          have hBa6 := bytesAt_below hBa4 hb46
          have hG6 := hG4.step hb46 hG4.size
          refine (ParseAnswer_ _ _ w6 hG6 hBa6).mono ?_
          rintro e w7 ⟨hP, hb7⟩
          have hb37 := hb36.trans (hb7.mono hb36.size)
          have hBa7 := bytesAt_below hBa hb37
          have hv7 := bytesAt_below hv3 hb37
          rw [(ans_read p.1 l hw h65).1] at hP
          obtain ⟨vb, rfl, hbv, hbf⟩ := hP
          obtain ⟨b1, b2⟩ := cl_bytes hbv
          obtain ⟨Ab, cb, rfl, _⟩ := bytesAt_shape hbv
          obtain ⟨Aa, ca, rfl, _⟩ := bytesAt_shape hBa
          simp only [push_cast, Nat.reduceBEq, Nat.reduceLeDiff, Nat.reduceAdd, b1, b2]
          have hba := al_below w7 [([Value.int IntKind.i64 p.1, .slice Ab l.length cb], 45)]
          have hc1 := conv_back (bytesAt_below hBa7 hba)
          have hc2 := conv_back (bytesAt_below hv7 hba)
          have hc3 := conv_back (bytesAt_below hbv hba)
          have ee : ∀ a : ByteArray, decide (a = a) = true := fun a => decide_eq_true rfl
          have ei : ∀ a : Int, decide (a = a) = true := fun a => decide_eq_true rfl
          have hs7 := hb37.size
          simp only [push_cast, Nat.reduceBEq, Nat.reduceLeDiff, Nat.reduceAdd, hc1, hc2, hc3, ee, ei, Bool.and_self]
          exact hR _ _ ⟨rfl, (hb03.trans (hb37.mono hs03)).trans (hba.mono (by omega))⟩
        · have hl0 : l = [] := by simp only [decide_eq_false_iff_not, Int.natCast_pos, Nat.not_lt, Nat.le_zero, List.length_eq_zero_iff] at hc; exact hc
          have e2 : X1 ++ (⟨#[67, 97, 99, 104, 101, 45, 67, 111, 110, 116, 114, 111, 108, 58, 32, 110, 111, 45, 115, 116, 111, 114, 101, 13, 10, 67, 111, 110, 116, 101, 110, 116, 45, 76, 101, 110, 103, 116, 104, 58, 32]⟩ ++ mkS (Lib.decDigits l.length) ++ ⟨#[13, 10, 13, 10]⟩ ++ mkS l) = mkS (bytesA p.1 l) := by
            have : bytesA p.1 l = (verB ++ Lib.decDigits p.1 ++ [32] ++ p.2 ++ [13, 10]) ++ ([67, 97, 99, 104, 101, 45, 67, 111, 110, 116, 114, 111, 108, 58, 32, 110, 111, 45, 115, 116, 111, 114, 101, 13, 10, 67, 111, 110, 116, 101, 110, 116, 45, 76, 101, 110, 103, 116, 104, 58, 32] ++ Lib.decDigits l.length ++ [13, 10, 13, 10] ++ l) := by
              simp [bytesA, hwp, hdrsA, hl0, hlsS, hlS, hCT, hAJ, hCC, hNS, hCL, verB]
            rw [this, hX1]; simp only [mkS_app2]; rfl
          have hb35 := hb4.trans (hb45.mono hb4.size)
          have hs5 := hb45.size
          have hv5 := bytesAt_below hv4 hb45
          have jc : convC Tryz.prog (Below w5.heap.size w5) 22 9 (.slice A l.length c) = some (.string (mkS l)) :=
            convC_of w5 (Below.refl _ _) fun w' hw' => conv_back (bytesAt_below hv5 hw')
          refine law_planK (Below w5.heap.size w5) (.take 0 (.take 1 (.take 2 (.take 6 (.take 7 (.alt 3 (.take 4 (.take 5 (.take 8 (.take 9 (.take 10 (.done)))))) (.nil))))))) (by kernel_rfl) (by kernel_rfl) (by kernel_rfl) (Below.refl _ _).drew ?_
          intro K hK
          simp only [push_cast, Nat.reduceBEq, Nat.reduceLeDiff, Nat.reduceAdd, jc, and_true]
          refine (rNum l.length (by omega) w5.drew).mono ?_
          rintro e w6 ⟨rfl, hb6⟩
          have hb56 : Below w5.heap.size w5 w6 := (Below.refl _ _).drew.trans hb6
          simp only [push_cast, Nat.reduceBEq, Nat.reduceLeDiff, Nat.reduceAdd, jc, and_true]
          rw [e2]
          simp only [ByteArray.size_append, size_mkS, s1, s2, s3, s4, s5]
          refine ⟨hb56, by omega, by omega, by omega, by omega, hK _ _ ?_⟩
          clear hK
          simp only [push_cast, Nat.reduceBEq, Nat.reduceLeDiff, Nat.reduceAdd]
          have hb46 := hb45.trans (hb56.mono hs5)
          have hb36 := hb35.trans (hb56.mono (by have := hb35.size; omega))
          have hBa6 := bytesAt_below hBa4 hb46
          have hG6 := hG4.step hb46 hG4.size
          refine (ParseAnswer_ _ _ w6 hG6 hBa6).mono ?_
          rintro e w7 ⟨hP, hb7⟩
          have hb37 := hb36.trans (hb7.mono hb36.size)
          have hBa7 := bytesAt_below hBa hb37
          have hv7 := bytesAt_below hv3 hb37
          rw [(ans_read p.1 l hw h65).1] at hP
          obtain ⟨vb, rfl, hbv, hbf⟩ := hP
          obtain ⟨b1, b2⟩ := cl_bytes hbv
          obtain ⟨Ab, cb, rfl, _⟩ := bytesAt_shape hbv
          obtain ⟨Aa, ca, rfl, _⟩ := bytesAt_shape hBa
          simp only [push_cast, Nat.reduceBEq, Nat.reduceLeDiff, Nat.reduceAdd, b1, b2]
          have hba := al_below w7 [([Value.int IntKind.i64 p.1, .slice Ab l.length cb], 45)]
          have hc1 := conv_back (bytesAt_below hBa7 hba)
          have hc2 := conv_back (bytesAt_below hv7 hba)
          have hc3 := conv_back (bytesAt_below hbv hba)
          have ee : ∀ a : ByteArray, decide (a = a) = true := fun a => decide_eq_true rfl
          have ei : ∀ a : Int, decide (a = a) = true := fun a => decide_eq_true rfl
          have hs7 := hb37.size
          simp only [push_cast, Nat.reduceBEq, Nat.reduceLeDiff, Nat.reduceAdd, hc1, hc2, hc3, ee, ei, Bool.and_self]
          exact hR _ _ ⟨rfl, (hb03.trans (hb37.mono hs03)).trans (hba.mono (by omega))⟩
      · have q2 : decide ((p.1 : Int) ≠ st) = true := decide_eq_true (fun hh => he hh.symm)
        simp only [push_cast, Nat.reduceBEq, Nat.reduceLeDiff, Nat.reduceAdd, h35, q1, c1, q2]
        refine ⟨⟨by omega, by omega⟩, hT (12 - (k + 1)) _ _ (by simp only [push_cast, Nat.reduceBEq, Nat.reduceLeDiff]) (by omega) ⟨k + 1, by omega, rfl, ?_, fun j q hj hq => ?_, hb4⟩⟩
        · simp only [push_cast, Nat.reduceBEq, Nat.reduceLeDiff]; rw [w64 (by omega) (by omega)]
        · rcases Nat.lt_or_ge j k with h1 | h1
          · exact hno j q h1 hq
          · obtain rfl : j = k := by omega
            rw [hp] at hq; cases hq; exact he
    · exfalso
      rcases word_cases st with h0 | ⟨p, hp, h1, _⟩
      · exact hw h0
      · obtain ⟨j, hj⟩ := List.mem_iff_getElem?.1 hp
        have hj12 : j < 12 := by
          have := (List.getElem?_eq_some_iff.1 hj).1; exact this
        exact hno j p (by omega) hj h1
end Go.Proofs.YtciepffocobgpaaGreatDoor
