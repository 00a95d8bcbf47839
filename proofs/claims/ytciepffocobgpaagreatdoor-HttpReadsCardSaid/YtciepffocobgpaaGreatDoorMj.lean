/- The reference of answers; the plain law that both agree. -/
import Derived.Test.YtciepffocobgpaaGreatDoorMs
import Derived.Test.YtciepffocobgpaaGreatDoorMi
namespace Go.Proofs.YtciepffocobgpaaGreatDoor
open Go Go.Sx Go.RowKit
set_option linter.unusedSimpArgs false
set_option linter.unusedVariables false
/-- What the reference says of an answer. -/
def ans2 (s1 : RS) (l : Bytes) : RS × Int :=
  if l.length < 13 then (failS 31 s1, 0) else
  if l.take 9 = verB then
    if l[12]? = some 32 then
      if shownB l = true then
        if ((l.drop 9).take 3).all isD = true then (tailS false 65536 s1, (decN ((l.drop 9).take 3) : Int)) else (failS 31 s1, 0)
      else (failS 31 s1, 0)
    else (failS 31 s1, 0)
  else (failS 31 s1, 0)
def answerS (l : Bytes) : RS × Int := if 81920 < l.length then (failS 11 (initS l), 0) else ans2 (lineS (initS l)).2 (lineS (initS l)).1
theorem rAnswer (l : Bytes) (w : World) :
    Calls Tryz.prog 14 #[.string (mkS l)] w fun r w' => r = .returned (.tuple #[.pointer (some ⟨w.heap.size, 0, none⟩), .int .i64 (answerS l).2]) ∧ (∃ v2 v3 v4, RBlk w' w.heap.size v2 v3 v4 (answerS l).1) ∧ Below w.heap.size w w' := by
  refine calls_X Tryz.func14 rfl Tryz.ntmps14 Tryz.results14 rfl rfl (by kernel_rfl) fun R hR => ?_
  simp only [push_cast, Nat.reduceBEq, Nat.reduceLeDiff, Nat.reduceAdd, bld36, size_mkS]
  have h0 := rblk_init w l
  have hb0 : Below w.heap.size w (al w [(cells36 l, 36)]) := al_below _ _
  simp only [cells36] at h0 hb0
  generalize al w [([.string ⟨#[]⟩, .string ⟨#[]⟩, .slice none 0 0, .slice none 0 0, .slice none 0 0, .string ⟨#[]⟩, .int .i64 0, .string (mkS l)], 36)] = w0 at h0 hb0 ⊢
  generalize w.heap.size = b at *
  unfold answerS at hR
  refine ⟨fun hl => ?_, fun hl => ?_⟩
  · simp only [decide_eq_true_eq] at hl
    rw [if_pos (by omega)] at hR
    refine (rfail b _ _ _ _ 11 w0 h0).mono ?_
    rintro e w1 ⟨rfl, h1, hb1⟩
    simp only [push_cast, Nat.reduceBEq, Nat.reduceLeDiff, Nat.reduceAdd]
    exact hR _ _ ⟨rfl, ⟨_, _, _, h1⟩, hb0.trans hb1⟩
  simp only [decide_eq_false_iff_not] at hl
  rw [if_neg (by omega)] at hR
  have ok0 : RSok (initS l) := ⟨by simp [initS], rfl, by simp only [initS]; omega, by simp [initS]⟩
  refine (rline b _ _ _ (initS l) (by simp only [initS]; omega) w0 h0).mono ?_
  rintro e w1 ⟨rfl, h1, hb1⟩
  obtain ⟨ok1, hll, _⟩ := ok0.line
  have hb01 := hb0.trans hb1
  generalize (lineS (initS l)).2 = s1 at *
  generalize (lineS (initS l)).1 = l1 at *
  have hno : ans2 s1 l1 = (failS 31 s1, 0) → ∀ w2, (RBlk w2 b (.slice none 0 0) (.slice none 0 0) (.slice none 0 0) (failS 31 s1)) → Below b w w2 → R (.returned (.tuple #[.pointer (some ⟨b, 0, none⟩), .int .i64 0])) w2 := fun h w2 hr hb => hR _ _ (by rw [h]; exact ⟨rfl, ⟨_, _, _, hr⟩, hb⟩)
  by_cases h13 : l1.length < 13
  · have q1 : decide ((l1.length : Int) < 13) = true := decide_eq_true (by omega)
    simp only [push_cast, Nat.reduceBEq, Nat.reduceLeDiff, Nat.reduceAdd, size_mkS, q1, Bool.true_or]
    refine (rfail b _ _ _ s1 31 w1 h1).mono ?_
    rintro e w2 ⟨rfl, h2, hb2⟩
    simp only [push_cast, Nat.reduceBEq, Nat.reduceLeDiff, Nat.reduceAdd]
    exact hno (by rw [ans2, if_pos h13]) _ h2 (hb01.trans hb2)
  have hL0 : ans2 s1 l1 = if l1.take 9 = verB then
      if l1[12]? = some 32 then
        if shownB l1 = true then
          if ((l1.drop 9).take 3).all isD = true then (tailS false 65536 s1, (decN ((l1.drop 9).take 3) : Int)) else (failS 31 s1, 0)
        else (failS 31 s1, 0)
      else (failS 31 s1, 0)
    else (failS 31 s1, 0) := by rw [ans2, if_neg h13]
  have q1 : decide ((l1.length : Int) < 13) = false := decide_eq_false (by omega)
  have ex9 : (mkS l1).extract 0 (9 : Int).toNat = mkS (l1.take 9) := by rw [← mkS_toL ((mkS l1).extract 0 (9 : Int).toNat), toL_extract, toL_mkS, List.drop_zero]; rfl
  have hve : (mkS (l1.take 9) = { data := #[72, 84, 84, 80, 47, 49, 46, 49, 32] }) ↔ l1.take 9 = verB := mkS_eq _ _
  by_cases hv : l1.take 9 = verB
  case neg =>
    rw [if_neg hv] at hL0
    have q2 : decide (mkS (l1.take 9) ≠ { data := #[72, 84, 84, 80, 47, 49, 46, 49, 32] }) = true := decide_eq_true (by rw [ne_eq, hve]; exact hv)
    simp only [push_cast, Nat.reduceBEq, Nat.reduceLeDiff, Nat.reduceAdd, size_mkS, q1, q2, ex9, Bool.true_or, Bool.false_or, Bool.not_true, Bool.not_false]
    refine ⟨by omega, (rfail b _ _ _ s1 31 w1 h1).mono ?_⟩
    rintro e w2 ⟨rfl, h2, hb2⟩
    simp only [push_cast, Nat.reduceBEq, Nat.reduceLeDiff, Nat.reduceAdd]
    exact hno hL0 _ h2 (hb01.trans hb2)
  rw [if_pos hv] at hL0
  have q2 : decide (mkS (l1.take 9) ≠ { data := #[72, 84, 84, 80, 47, 49, 46, 49, 32] }) = false := decide_eq_false (by rw [ne_eq, hve]; exact fun h => h hv)
  have h12 : 12 < l1.length := by omega
  have hx : l1[12]? = some l1[12] := List.getElem?_eq_getElem h12
  have hbt : bt (mkS l1) 12 = ((l1[12]).toNat : Int) := by
    have := bt_get (mkS l1) 12 (by rw [toL_mkS]; exact h12)
    simp only [toL_mkS] at this; exact this
  generalize l1[12] = x at hx hbt
  have e32 : ((x.toNat : Int) = 32) ↔ x = 32 := u8_eq x 32
  rw [hx] at hL0
  by_cases hx32 : x = 32
  case neg =>
    rw [if_neg (by simpa using hx32)] at hL0
    have q3 : decide ((x.toNat : Int) ≠ 32) = true := decide_eq_true (by rw [ne_eq, e32]; exact hx32)
    simp only [push_cast, Nat.reduceBEq, Nat.reduceLeDiff, Nat.reduceAdd, size_mkS, q1, q2, q3, hbt, ex9, Bool.true_or, Bool.false_or, Bool.not_true, Bool.not_false]
    refine ⟨by omega, by omega, (rfail b _ _ _ s1 31 w1 h1).mono ?_⟩
    rintro e w2 ⟨rfl, h2, hb2⟩
    simp only [push_cast, Nat.reduceBEq, Nat.reduceLeDiff, Nat.reduceAdd]
    exact hno hL0 _ h2 (hb01.trans hb2)
  rw [if_pos (by simpa using hx32)] at hL0
  have q3 : decide ((x.toNat : Int) ≠ 32) = false := decide_eq_false (by rw [ne_eq, e32]; exact fun h => h hx32)
  simp only [push_cast, Nat.reduceBEq, Nat.reduceLeDiff, Nat.reduceAdd, size_mkS, q1, q2, q3, hbt, ex9, Bool.true_or, Bool.false_or, Bool.not_true, Bool.not_false]
  refine ⟨by omega, by omega, (rshown (mkS l1) (by rw [size_mkS]; omega) w1).mono ?_⟩
  rintro e wx ⟨rfl, hwx⟩
  rw [← hwx]
  clear hwx wx
  rw [toL_mkS]
  cases hsh : shownB l1 with
  | false =>
    rw [hsh, if_neg (by decide)] at hL0
    simp only [push_cast, Nat.reduceBEq, Nat.reduceLeDiff, Nat.reduceAdd, size_mkS, q1, q2, q3, Bool.true_or, Bool.false_or, Bool.not_true, Bool.not_false]
    refine (rfail b _ _ _ s1 31 w1 h1).mono ?_
    rintro e w2 ⟨rfl, h2, hb2⟩
    simp only [push_cast, Nat.reduceBEq, Nat.reduceLeDiff, Nat.reduceAdd]
    exact hno hL0 _ h2 (hb01.trans hb2)
  | true =>
  rw [hsh, if_pos rfl] at hL0
  simp only [push_cast, Nat.reduceBEq, Nat.reduceLeDiff, Nat.reduceAdd, size_mkS, q1, q2, q3, Bool.true_or, Bool.false_or, Bool.not_true, Bool.not_false]
  have hd9 : ((l1.drop 9).take 3).length = 3 := by rw [List.length_take, List.length_drop]; omega
  refine law_loop [(2, 3), (6, 7), (40, 64)] (fun n h' w' => ∃ k : Nat, k ≤ 3 ∧ n = 3 - k ∧ h' 7 = .int .i64 (9 + (k : Int)) ∧ h' 6 = .int .i64 (decN ((l1.drop 9).take k)) ∧ ((l1.drop 9).take k).all isD = true ∧ decN ((l1.drop 9).take k) < 10 ^ k ∧ w1 = w') 3 ⟨0, by omega, rfl, rfl, rfl, rfl, Nat.zero_lt_one, rfl⟩ ?_
  rintro n h' w' ⟨k, hk3, hn, h7, h6, hall, hlt, rfl⟩ T hT
  simp only [push_cast, Nat.reduceBEq, Nat.reduceLeDiff, Nat.reduceAdd, h7, h6, size_mkS]
  have hk9 : (9 : Int) + (k : Int) = ((9 + k : Nat) : Int) := by omega
  refine ⟨fun hc => ?_, fun hc => ?_⟩
  · simp only [decide_eq_true_eq] at hc
    have hk : 9 + k < l1.length := by omega
    have hb : bt (mkS l1) (9 + (k : Int)) = ((l1[9 + k]).toNat : Int) := by
      rw [hk9]
      have := bt_get (mkS l1) (9 + k) (by rw [toL_mkS]; exact hk)
      simp only [toL_mkS] at this; exact this
    have hkd : k < (l1.drop 9).length := by rw [List.length_drop]; omega
    have htk : (l1.drop 9).take (k + 1) = (l1.drop 9).take k ++ [l1[9 + k]] := by rw [List.take_succ_eq_append_getElem hkd, List.getElem_drop]
    rw [hb]
    generalize l1[9 + k] = x at htk
    have h256 := x.toNat_lt
    have hsnoc : decN ((l1.drop 9).take (k + 1)) = decN ((l1.drop 9).take k) * 10 + (x.toNat - 48) := by rw [htk, decN, List.foldl_append]; rfl
    refine ⟨by omega, fun _ => by omega, fun hb2 => ?_, fun hb2 => ?_⟩
    · have hx : isD x = false := by
        simp only [Bool.or_eq_true, decide_eq_true_eq] at hb2
        unfold isD
        rw [Bool.and_eq_false_iff, decide_eq_false_iff_not, decide_eq_false_iff_not]; omega
      have hbad : ((l1.drop 9).take 3).all isD = false := by
        rw [List.all_eq_false]
        refine ⟨x, ?_, by rw [hx]; decide⟩
        have : x ∈ (l1.drop 9).take (k + 1) := by rw [htk]; simp
        exact (List.take_sublist_take_left (by omega)).subset this
      rw [hbad, if_neg (by decide)] at hL0
      refine (rfail b _ _ _ s1 31 w1 h1).mono ?_
      rintro e w2 ⟨rfl, h2, hb2⟩
      simp only [push_cast, Nat.reduceBEq, Nat.reduceLeDiff, Nat.reduceAdd]
      exact hno hL0 _ h2 (hb01.trans hb2)
    · simp only [Bool.or_eq_false_iff, decide_eq_false_iff_not] at hb2
      have hx : isD x = true := by
        unfold isD
        rw [Bool.and_eq_true, decide_eq_true_eq, decide_eq_true_eq]; omega
      have hpw : 10 ^ (k + 1) = 10 ^ k * 10 := Nat.pow_succ ..
      have hp3 : 10 ^ k ≤ 10 ^ 3 := Nat.pow_le_pow_right (by decide) hk3
      have hw1 : IntKind.u8.wrap ((x.toNat : Int) - 48) = (x.toNat : Int) - 48 := IntWalk.u8_in _ ⟨by omega, by omega⟩
      refine ⟨by omega, hT (3 - (k + 1)) _ _ (by simp only [push_cast, Nat.reduceBEq, Nat.reduceLeDiff]) (by omega) ⟨k + 1, by omega, rfl, ?_, ?_, ?_, ?_, rfl⟩⟩
      · simp only [push_cast, Nat.reduceBEq, Nat.reduceLeDiff]; rw [w64 (by omega) (by omega)]; congr 1
      · simp only [push_cast, Nat.reduceBEq, Nat.reduceLeDiff, hw1]
        rw [w64 (n := (x.toNat : Int) - 48) (by omega) (by omega), w64 (n := 10 * (decN ((l1.drop 9).take k) : Int)) (by omega) (by omega), w64 (by omega) (by omega), hsnoc]
        congr 1; omega
      · rw [htk, List.all_append, hall]; simp [hx]
      · rw [hsnoc]; omega
  · simp only [decide_eq_false_iff_not] at hc
    have hk0 : k = 3 := by omega
    subst hk0
    rw [hall, if_pos rfl] at hL0
    refine (rtail b _ _ _ s1 false 65536 ok1 w1 h1).mono ?_
    rintro e w3 ⟨rfl, ⟨v3', v4', h3⟩, hb3⟩
    simp only [push_cast, Nat.reduceBEq, Nat.reduceLeDiff, Nat.reduceAdd, h6]
    exact hR _ _ (by rw [hL0]; exact ⟨rfl, ⟨_, _, _, h3⟩, hb01.trans hb3⟩)
end Go.Proofs.YtciepffocobgpaaGreatDoor
namespace Go.Proofs.YtciepffocobgpaaGreatDoor
open Go Go.Sx
set_option linter.unusedSimpArgs false
set_option linter.unusedVariables false
/-! The plain law of an answer. -/
theorem pre_take : ∀ (p l : Bytes), (p.isPrefixOf l = true) ↔ l.take p.length = p
  | [], l => by simp
  | x :: p, [] => by simp
  | x :: p, y :: l => by
    simp only [List.isPrefixOf, Bool.and_eq_true, beq_iff_eq, List.length_cons, List.take_succ_cons, List.cons.injEq]
    rw [pre_take p l]
    exact ⟨fun ⟨a, b⟩ => ⟨a.symm, b⟩, fun ⟨a, b⟩ => ⟨a.symm, b⟩⟩
theorem shown_dig (d : Bytes) (h : d.all isD = true) : shownB d = true := by
  unfold shownB
  rw [List.all_eq_true] at h ⊢
  intro c hc
  have := h c hc
  unfold isD at this
  simp only [Bool.and_eq_true, decide_eq_true_eq] at this ⊢
  omega
theorem ans2_eq (s1 : RS) (l : Bytes) : ans2 s1 l = match ansLine l with | some n => (tailS false 65536 s1, n) | none => (failS 31 s1, 0) := by
  unfold ans2 ansLine
  have hpre : (Lib.hasPrefix l verB = true) ↔ l.take 9 = verB := pre_take verB l
  by_cases h13 : l.length < 13
  · rw [if_pos h13]
    split
    · rename_i n h
      exfalso
      split at h
      · split at h
        · rename_i h4; rw [List.length_drop] at h4; omega
        · cases h
      · cases h
    · rfl
  rw [if_neg h13]
  by_cases hv : l.take 9 = verB
  case neg => rw [if_neg hv, if_neg (fun h => hv (hpre.1 h))]
  rw [if_pos hv, if_pos (hpre.2 hv), if_pos (show 4 ≤ (l.drop 9).length by rw [List.length_drop]; omega)]
  have hof : ofB digC 3 ((l.drop 9).take 3) = ((l.drop 9).take 3).all isD := by
    unfold ofB; simp only [dig_c]
    have h1 : ((l.drop 9).take 3).length = 3 := by rw [List.length_take, List.length_drop]; omega
    have h2 : ((l.drop 9).take 3).isEmpty = false := by
      rw [Bool.eq_false_iff, ne_eq, List.isEmpty_iff]
      intro h; rw [h] at h1; simp at h1
    rw [h1, h2]; rfl
  have hx : (l.drop 9)[3]? = l[12]? := by rw [List.getElem?_drop]
  rw [hof, hx]
  by_cases hx32 : l[12]? = some 32
  case neg =>
    rw [if_neg hx32, if_neg hx32]
    split
    · rename_i n h; split at h <;> cases h
    · rfl
  rw [if_pos hx32, if_pos hx32]
  have hsplit : l = verB ++ ((l.drop 9).take 3 ++ (32 :: (l.drop 9).drop 4)) := by
    have e1 : l = l.take 9 ++ l.drop 9 := (List.take_append_drop 9 l).symm
    have e2 : l.drop 9 = (l.drop 9).take 3 ++ (l.drop 9).drop 3 := (List.take_append_drop 3 _).symm
    have h3 : 3 < (l.drop 9).length := by rw [List.length_drop]; omega
    have e3 : (l.drop 9).drop 3 = 32 :: (l.drop 9).drop 4 := by
      rw [List.drop_eq_getElem_cons h3]
      congr 1
      have : (l.drop 9)[3]? = some 32 := by rw [hx]; exact hx32
      rw [List.getElem?_eq_getElem h3] at this
      exact Option.some.inj this
    rw [hv] at e1
    rw [← e3, ← e2]
    exact e1
  have hsh : shownB l = (shownB ((l.drop 9).take 3) && shownB ((l.drop 9).drop 4)) := by
    conv => lhs; rw [hsplit]
    unfold shownB
    rw [List.all_append, List.all_append, List.all_cons]
    rw [show verB.all (fun c => decide (32 ≤ c.toNat) && decide (c.toNat ≤ 126)) = true from by kernel_rfl, Bool.true_and]
    rw [show (decide (32 ≤ (32 : UInt8).toNat) && decide ((32 : UInt8).toNat ≤ 126)) = true from by kernel_rfl, Bool.true_and]
  rw [hsh]
  by_cases hd : ((l.drop 9).take 3).all isD = true
  · rw [shown_dig _ hd, Bool.true_and, if_pos hd]
    by_cases hr : shownB ((l.drop 9).drop 4) = true
    · rw [if_pos hr, if_pos hr, if_pos hd]
    · rw [if_neg hr, if_neg hr, if_pos hd]
  · rw [if_neg hd, if_neg hd]
    split <;> rfl
theorem ans_law (l : Bytes) :
    match ansS l with
    | .error e => (answerS l).1.e = e ∧ e ≠ 0
    | .ok (n, b) => (answerS l).1.e = 0 ∧ (answerS l).2 = n ∧ (answerS l).1.b = b := by
  unfold ansS answerS
  by_cases hl : 81920 < l.length
  · rw [if_pos hl, if_pos hl]; exact ⟨rfl, by decide⟩
  rw [if_neg hl, if_neg hl, ans2_eq, lineS]
  cases hc : cutLine l with
  | none =>
    have : cutLine (initS l).r = none := hc
    rw [this]
    exact ⟨rfl, by decide⟩
  | some p =>
    obtain ⟨a, rest⟩ := p
    have : cutLine (initS l).r = some (a, rest) := hc
    rw [this]
    simp only
    cases ansLine a with
    | none => exact ⟨rfl, by decide⟩
    | some n =>
      simp only
      unfold tailS
      have hlp := loop_law (rest.length + 1) [] { initS l with r := rest } rfl rfl rfl (Nat.lt_succ_self _)
      simp only at hlp ⊢
      cases hh : hdrsS (rest.length + 1) [] rest with
      | error e =>
        rw [hh] at hlp
        obtain ⟨h1, h2⟩ := hlp
        simp only
        rw [tail_ne _ _ _ (by rw [h1]; exact h2)]
        exact ⟨h1, h2⟩
      | ok hr =>
        obtain ⟨h, rest2⟩ := hr
        rw [hh] at hlp
        simp only at hlp ⊢
        rw [hlp]
        unfold tailR
        rw [if_neg (by simp)]
        have hb := body_law { initS l with ns := h.map Prod.fst, vs := h.map Prod.snd, r := rest2 } h 65536 rfl rfl rfl
        simp only at hb
        cases hbs : bodyS h rest2 65536 with
        | error e => rw [hbs] at hb; exact hb
        | ok bb =>
          rw [hbs] at hb
          obtain ⟨h1, h2⟩ := hb
          simp only
          rw [h2, h1]
          exact ⟨rfl, trivial, rfl⟩
end Go.Proofs.YtciepffocobgpaaGreatDoor
