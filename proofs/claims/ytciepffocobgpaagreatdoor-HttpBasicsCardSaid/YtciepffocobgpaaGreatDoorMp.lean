/- The law HttpBasics, walked. -/
import Derived.Test.YtciepffocobgpaaGreatDoorMq
import Derived.Test.YtciepffocobgpaaGreatDoorMl
import Derived.Test.YtciepffocobgpaaGreatDoorMr
import Derived.Test.YtciepffocobgpaaGreatDoorMn
namespace Go.Proofs.YtciepffocobgpaaGreatDoor
open Go Go.Sx Go.RowKit
set_option linter.unusedSimpArgs false
set_option linter.unusedVariables false
theorem slc_h {w : World} {A : Option Addr} {l : Bytes} {c k : Nat} (h : BytesAt w (.slice A l.length c) l) (hc : l.length ≤ c) (hk : k ≤ l.length) :
    (slcRun 22 [.slice A l.length c, .int .i64 (k : Int)] false true).run Tryz.prog w = .ok (.slice A k c) w ∧ BytesAt w (.slice A k c) (l.take k) := by
  refine ⟨?_, ?_⟩
  · show (Instr.sliceAt 22 (.slice A l.length c) none (some (.int .i64 (k : Int))) none).run Tryz.prog w = _
    have hu : Tryz.prog.underlying 22 = some (.slice (Tryz.prog.elem 22)) := by kernel_rfl
    have hz : (sizeOf (Tryz.prog.elem 22)).run Tryz.prog w = .ok 1 w := by kernel_rfl
    rw [run_sliceAt_slice w 22 _ _ _ _ hu, run_slice_h w 22 A l.length c hu .i64 (k : Int) (by omega) (by omega), hz]
    simp only [Result.andThen, sliced, Int.toNat_natCast, Nat.sub_zero]
    cases A with
    | none => simp
    | some a => simp [Addr.add]
  · rcases h with ⟨A', c', hv, rfl⟩ | ⟨b, o, c', hv, h2, h3⟩
    · have : k = 0 := by simpa using hk
      subst this
      exact .inl ⟨A, c, rfl, rfl⟩
    · cases hv
      refine .inr ⟨b, o, c, by rw [List.length_take, Nat.min_eq_left hk], h2, fun j x hj => h3 j x ?_⟩
      rw [List.getElem?_take] at hj
      split at hj
      · exact hj
      · cases hj
theorem slc_l {w : World} {A : Option Addr} {l : Bytes} {c k : Nat} (h : BytesAt w (.slice A l.length c) l) (hc : l.length ≤ c) (hk : k ≤ l.length) :
    (slcRun 22 [.slice A l.length c, .int .i64 (k : Int)] true false).run Tryz.prog w = .ok (.slice (if c = k then A else A.map (·.add (k * 1))) (l.length - k) (c - k)) w ∧ BytesAt w (.slice (if c = k then A else A.map (·.add (k * 1))) (l.length - k) (c - k)) (l.drop k) := by
  refine ⟨?_, ?_⟩
  · show (Instr.sliceAt 22 (.slice A l.length c) (some (.int .i64 (k : Int))) none none).run Tryz.prog w = _
    have hu : Tryz.prog.underlying 22 = some (.slice (Tryz.prog.elem 22)) := by kernel_rfl
    have hz : (sizeOf (Tryz.prog.elem 22)).run Tryz.prog w = .ok 1 w := by kernel_rfl
    rw [run_sliceAt_slice w 22 _ _ _ _ hu, run_slice_l w 22 A l.length c hu .i64 (k : Int) (by omega) (by omega), hz]
    simp only [Result.andThen, sliced, Int.toNat_natCast]
  · rcases h with ⟨A', c', hv, rfl⟩ | ⟨b, o, c', hv, h2, h3⟩
    · have : k = 0 := by simpa using hk
      subst this
      exact .inl ⟨_, _, rfl, rfl⟩
    · cases hv
      by_cases hkl : k = l.length
      · subst hkl
        rw [Nat.sub_self, List.drop_length]
        exact .inl ⟨_, _, rfl, rfl⟩
      · have hne : ¬ c = k := by omega
        rw [if_neg hne]
        refine .inr ⟨b, o + k * 1, c - k, by rw [List.length_drop]; simp only [Option.map_some, Addr.add_lit], h2, fun j x hj => ?_⟩
        rw [List.getElem?_drop] at hj
        have := h3 (k + j) x hj
        rwa [show o + k * 1 + j = o + (k + j) by omega]
theorem cut1_at (c : UInt8) (l : Bytes) (k : Nat) (hk : k < l.length) (hx : l[k] = c) (hno : ∀ x ∈ l.take k, x ≠ c) : cut1 c l = some (l.take k, l.drop (k + 1)) := by
  have := cut1_app c (l.take k) (l.drop (k + 1)) hno
  rwa [← hx, ← List.drop_eq_getElem_cons hk, List.take_append_drop, hx] at this
theorem cut1_no (c : UInt8) (l : Bytes) (hno : ∀ x ∈ l, x ≠ c) : cut1 c l = none := by
  rw [cut1_contains]
  cases hc : l.contains c with
  | false => rfl
  | true => exact absurd rfl (hno c (List.contains_iff_mem.1 hc))
theorem basic_std (u p : Bytes) (hu : ∀ x ∈ u, x ≠ 58) : basicS (stdS (u ++ 58 :: p)) = if (told u && told p) = true then .ok (u, p) else .error 30 := by
  rw [basicS, from_std]
  simp only [cut1_app 58 u p hu]
  cases told u <;> cases told p <;> rfl
set_option maxRecDepth 20000 in
set_option maxHeartbeats 4000000 in
theorem HttpBasics_ (u p s : ByteArray) (w : World) (hG : G w) :
    Calls Tryz.prog 8 #[.string u, .string p, .string s] w fun e w' => e = .returned (.bool true) ∧ Below w.heap.size w w' := by
  refine calls_X Tryz.func8 rfl Tryz.ntmps8 Tryz.results8 rfl rfl (by kernel_rfl) fun R hR => ?_
  simp only [push_cast, Nat.reduceBEq, Nat.reduceLeDiff, Nat.reduceAdd]
  refine (anchor_ w hG).mono ?_
  rintro e w1 ⟨rfl, hb1⟩
  have hG1 := hG.step hb1 hG.size
  by_cases hu : u.size > 200 ∨ p.size > 200 ∨ s.size > 400
  · by_cases a1 : u.size > 200
    · have r1 : decide ((u.size : Int) > 200) = true := decide_eq_true (by omega)
      simp only [push_cast, Nat.reduceBEq, Nat.reduceLeDiff, Nat.reduceAdd, r1]
      exact hR _ _ ⟨rfl, hb1⟩
    have r1 : decide ((u.size : Int) > 200) = false := decide_eq_false (by omega)
    by_cases a2 : p.size > 200
    · have r2 : decide ((p.size : Int) > 200) = true := decide_eq_true (by omega)
      simp only [push_cast, Nat.reduceBEq, Nat.reduceLeDiff, Nat.reduceAdd, r1, r2]
      exact hR _ _ ⟨rfl, hb1⟩
    have r2 : decide ((p.size : Int) > 200) = false := decide_eq_false (by omega)
    have r3 : decide ((s.size : Int) > 400) = true := decide_eq_true (by omega)
    simp only [push_cast, Nat.reduceBEq, Nat.reduceLeDiff, Nat.reduceAdd, r1, r2, r3]
    exact hR _ _ ⟨rfl, hb1⟩
  have q1 : decide ((u.size : Int) > 200) = false := decide_eq_false (by omega)
  have q2 : decide ((p.size : Int) > 200) = false := decide_eq_false (by omega)
  have q3 : decide ((s.size : Int) > 400) = false := decide_eq_false (by omega)
  simp only [push_cast, Nat.reduceBEq, Nat.reduceLeDiff, Nat.reduceAdd, q1, q2, q3]
  have z1 : (⟨#[58]⟩ : ByteArray).size = 1 := rfl
  simp only [ByteArray.size_append, z1]
  refine ⟨by omega, by omega, ?_⟩
  obtain ⟨m, hm⟩ : ∃ m : Bytes, m = toL u ++ 58 :: toL p := ⟨_, rfl⟩
  have em : u ++ ⟨#[58]⟩ ++ p = mkS m := by
    apply toL_inj
    rw [toL_append, toL_append, toL_mkS, hm]
    simp [toL]
  have hml : m.length ≤ 401 := by rw [hm, List.length_append, List.length_cons, toL_len, toL_len]; omega
  rw [em]
  refine getR_of (conv_bytes (mkS m) w1) ?_
  rintro v w2 ⟨hB2, hb2, cc, rfl⟩
  rw [toL_mkS] at hB2
  have hb02 := hb1.trans (hb2.mono hb1.size)
  simp only [push_cast, Nat.reduceBEq, Nat.reduceLeDiff, Nat.reduceAdd]
  refine (Standard_ _ m w2 hB2 (by omega)).mono ?_
  rintro e w3 ⟨rfl, hb3⟩
  have hb03 := hb02.trans (hb3.mono hb02.size)
  have hsl : (stdS m).length ≤ 2000 := by
    have h1 := encS_len m
    have h2 := padS_len ((encS m).map (swB [45, 95] [43, 47])).length
    rw [stdS, List.length_append, List.length_map]; rw [List.length_map] at h2; omega
  simp only [push_cast, Nat.reduceBEq, Nat.reduceLeDiff, Nat.reduceAdd]
  refine (Basic_ (mkS (stdS m)) w3 (hG.step hb03 hG.size) (by rw [size_mkS]; omega)).mono ?_
  rintro e w4 ⟨rfl, hb4⟩
  have hb04 := hb03.trans (hb4.mono hb03.size)
  rw [toL_mkS]
  obtain ⟨R0, hR0⟩ : ∃ R0, R0 = basicS (stdS m) := ⟨_, rfl⟩
  rw [← hR0]
  obtain ⟨bu, bp, be, hbv⟩ : ∃ (bu bp : ByteArray) (be : Int), basicV R0 = .tuple #[.string bu, .string bp, .int .i64 be] := by
    unfold basicV; split <;> exact ⟨_, _, _, rfl⟩
  rw [hbv]
  simp only [push_cast, Nat.reduceBEq, Nat.reduceLeDiff, Nat.reduceAdd]
  refine law_loop [(10, 11), (47, 57)] (fun n h w' => ∃ k : Nat, k ≤ u.size ∧ n = u.size - k ∧ h 47 = .int .i64 k ∧ h 10 = .bool (((toL u).take k).any (· == 58)) ∧ w' = w4) u.size ⟨0, by omega, by omega, rfl, by simp only [List.take_zero, List.any_nil]; rfl, rfl⟩ ?_
  rintro n h w5 ⟨k, hk, hn, h47, h10, rfl⟩ T hT
  by_cases hkl : k < u.size
  · have q4 : decide ((k : Int) < u.size) = true := decide_eq_true (by omega)
    have hkt : k < (toL u).length := by rw [toL_len]; exact hkl
    have hbt := bt_get u k hkt
    have htk := List.take_succ_eq_append_getElem hkt
    generalize (toL u)[k] = x at hbt htk
    have e58 : ((x.toNat : Int) = 58) ↔ x = 58 := u8_eq x 58
    have hany : ((toL u).take (k + 1)).any (· == 58) = (((toL u).take k).any (· == 58) || decide ((x.toNat : Int) = 58)) := by
      rw [htk, List.any_append]; simp only [List.any_cons, List.any_nil, Bool.or_false, e58]; try (congr 1; done); try exact (Bool.eq_iff_iff.2 (by simp))
    cases hb : ((toL u).take k).any (· == 58) with
    | true =>
      rw [hb] at h10 hany
      simp only [push_cast, Nat.reduceBEq, Nat.reduceLeDiff, Nat.reduceAdd, h47, h10, q4, hbt]
      refine hT (u.size - (k + 1)) _ _ (by simp only [push_cast, Nat.reduceBEq, Nat.reduceLeDiff]) (by omega) ⟨k + 1, by omega, rfl, ?_, ?_, rfl⟩
      · simp only [push_cast, Nat.reduceBEq, Nat.reduceLeDiff]; rw [w64 (by omega) (by omega)]
      · rw [hany]; simp only [push_cast, Nat.reduceBEq, Nat.reduceLeDiff] <;> rfl
    | false =>
      rw [hb] at h10 hany
      simp only [push_cast, Nat.reduceBEq, Nat.reduceLeDiff, Nat.reduceAdd, h47, h10, q4, hbt]
      refine ⟨⟨by omega, by omega⟩, hT (u.size - (k + 1)) _ _ (by simp only [push_cast, Nat.reduceBEq, Nat.reduceLeDiff]) (by omega) ⟨k + 1, by omega, rfl, ?_, ?_, rfl⟩⟩
      · simp only [push_cast, Nat.reduceBEq, Nat.reduceLeDiff]; rw [w64 (by omega) (by omega)]
      · rw [hany]; simp only [push_cast, Nat.reduceBEq, Nat.reduceLeDiff, Bool.false_or]
  have q4 : decide ((k : Int) < u.size) = false := decide_eq_false (by omega)
  obtain ⟨col, hcol⟩ : ∃ col, col = ((toL u).take k).any (· == 58) := ⟨_, rfl⟩
  rw [← hcol] at h10
  have hR00 : col = false → R0 = if (told (toL u) && told (toL p)) = true then .ok (toL u, toL p) else .error 30 := by
    intro hc0
    have hku : k = (toL u).length := by rw [toL_len]; omega
    rw [hR0, hm, basic_std]
    intro x hx he
    rw [hcol, hku, List.take_length, List.any_eq_false] at hc0
    exact hc0 x hx (by simp [he])
  have hX : ∃ tu tp, tu = told (toL u) ∧ tp = told (toL p) := ⟨_, _, rfl, rfl⟩
  obtain ⟨tu, tp, htu, htp⟩ := hX
  have wu : decide (wrong (toL u) < 0) = tu := htu.symm
  have wp : decide (wrong (toL p) < 0) = tp := htp.symm
  rw [← htu, ← htp] at hR00
  clear hcol htu htp
  have hG4 := hG.step hb04 hG.size
  obtain ⟨ba, bb, bf, hbs⟩ : ∃ (bu bp : ByteArray) (be : Int), basicV (basicS (toL s)) = .tuple #[.string bu, .string bp, .int .i64 be] := by
    unfold basicV; split <;> exact ⟨_, _, _, rfl⟩
  have ee : ∀ a : ByteArray, decide (a ≠ a) = false := fun a => decide_eq_false (fun h => h rfl)
  have ei : ∀ a : Int, decide (a ≠ a) = false := fun a => decide_eq_false (fun h => h rfl)
  simp only [push_cast, Nat.reduceBEq, Nat.reduceLeDiff, Nat.reduceAdd, h47, h10, q4]
  refine (rWrong u (by omega) _).mono ?_
  rintro e w6 ⟨rfl, rfl⟩
  have fe : ∀ a : ByteArray, decide (a = a) = true := fun a => decide_eq_true rfl
  have fi : ∀ a : Int, decide (a = a) = true := fun a => decide_eq_true rfl
  have q10 : decide ((10 : Int) ≠ 0) = true := by decide
  have q0 : decide ((0 : Int) ≠ 0) = false := by decide
  cases tu with
  | false =>
    simp only [push_cast, Nat.reduceBEq, Nat.reduceLeDiff, Nat.reduceAdd, wu]
    cases col with
    | true =>
      simp only [push_cast, Nat.reduceBEq, Nat.reduceLeDiff, Nat.reduceAdd, h10]
      refine (Basic_ s _ hG4 (by omega)).mono ?_
      rintro e w7 ⟨rfl, hb7⟩
      have hb07 := hb04.trans (hb7.mono hb04.size)
      rw [hbs]
      simp only [push_cast, Nat.reduceBEq, Nat.reduceLeDiff, Nat.reduceAdd]
      refine (FromStandard_ s w7 (by omega)).mono ?_
      rintro e w8 ⟨hP, hb8⟩
      have hb08 := hb07.trans (hb8.mono hb07.size)
      cases hf : fromS (toL s) with
      | none =>
        rw [hf] at hP
        cases hP
        have hbs2 : basicS (toL s) = .error 10 := by rw [basicS, hf]
        rw [hbs2] at hbs
        simp [basicV] at hbs
        obtain ⟨rfl, rfl, rfl⟩ := hbs
        simp only [push_cast, Nat.reduceBEq, Nat.reduceLeDiff, Nat.reduceAdd, fe, fi, q10]
        exact hR _ _ ⟨rfl, hb08⟩
      | some o =>
        rw [hf] at hP
        obtain ⟨v, rfl, hB, A, c, rfl, hc⟩ := hP
        have hol := fromS_len hf
        rw [toL_len] at hol
        simp only [push_cast, Nat.reduceBEq, Nat.reduceLeDiff, Nat.reduceAdd, q0]
        refine law_loop [(6, 6), (18, 18), (131, 183)] (fun n h w' => ∃ k : Nat, k ≤ o.length ∧ n = o.length - k ∧ h 131 = .int .i64 k ∧ (∀ x ∈ o.take k, x ≠ 58) ∧ w' = w8) o.length ⟨0, by omega, by omega, rfl, by simp, rfl⟩ ?_
        rintro n h w9 ⟨k, hk, hn, h131, hno, rfl⟩ T hT
        by_cases hkl : k < o.length
        · have qk : decide ((k : Int) < o.length) = true := decide_eq_true (by omega)
          rcases hB with ⟨_, _, _, rfl⟩ | ⟨b, off, c', hv, h2, h3⟩
          · simp at hkl
          have hB : BytesAt w9 (.slice A o.length c) o := .inr ⟨b, off, c', hv, h2, h3⟩
          have hcell := h3 k _ (List.getElem?_eq_getElem hkl)
          rw [show off + k = off + k * 1 by omega] at hcell
          cases hv
          have e58 : ((o[k].toNat : Int) = 58) ↔ o[k] = 58 := u8_eq o[k] 58
          by_cases hx : o[k] = 58
          · have qx : decide ((o[k].toNat : Int) ≠ 58) = false := decide_eq_false (fun hh => hh (e58.2 hx))
            have hcut := cut1_at 58 o k hkl hx hno
            obtain ⟨s1, t1⟩ := slc_h hB hc hk
            obtain ⟨s2, t2⟩ := slc_l hB hc (k := k + 1) (by omega)
            rw [show ((k + 1 : Nat) : Int) = (k : Int) + 1 from rfl] at s2
            have cb1 := conv_back t1
            have cb2 := conv_back t2
            have wk : IntKind.i64.wrap ((k : Int) + 1) = (k : Int) + 1 := w64 (by omega) (by omega)
            simp only [push_cast, Nat.reduceBEq, Nat.reduceLeDiff, Nat.reduceAdd, h131, qk, hcell, qx, s1, cb1]
            refine ⟨⟨by omega, by omega⟩, (rWrong (mkS (o.take k)) (by rw [size_mkS, List.length_take]; omega) _).mono ?_⟩
            rintro e w10 ⟨rfl, rfl⟩
            rw [toL_mkS]
            by_cases ta : told (o.take k) = true
            · have g1 : decide (wrong (o.take k) ≥ 0) = false := decide_eq_false (by have := of_decide_eq_true ta; omega)
              simp only [push_cast, Nat.reduceBEq, Nat.reduceLeDiff, Nat.reduceAdd, g1, wk, s2, cb2]
              refine (rWrong (mkS (o.drop (k + 1))) (by rw [size_mkS, List.length_drop]; omega) _).mono ?_
              rintro e w10 ⟨rfl, rfl⟩
              rw [toL_mkS]
              by_cases tb : told (o.drop (k + 1)) = true
              · have g2 : decide (wrong (o.drop (k + 1)) ≥ 0) = false := decide_eq_false (by have := of_decide_eq_true tb; omega)
                have hbs2 : basicS (toL s) = .ok (o.take k, o.drop (k + 1)) := by rw [basicS, hf]; simp only [hcut, ta, tb, if_true]
                rw [hbs2] at hbs
                simp [basicV] at hbs
                obtain ⟨rfl, rfl, rfl⟩ := hbs
                simp only [push_cast, Nat.reduceBEq, Nat.reduceLeDiff, Nat.reduceAdd, g2, wk, s1, s2, cb1, cb2, fe, fi]
                exact hR _ _ ⟨rfl, hb08⟩
              · have g2 : decide (wrong (o.drop (k + 1)) ≥ 0) = true := decide_eq_true (by have := of_decide_eq_false (Bool.eq_false_iff.2 tb); omega)
                have hbs2 : basicS (toL s) = .error 30 := by rw [basicS, hf]; simp only [hcut, ta, tb, if_true, if_false, Bool.false_eq_true]
                rw [hbs2] at hbs
                simp [basicV] at hbs
                obtain ⟨rfl, rfl, rfl⟩ := hbs
                simp only [push_cast, Nat.reduceBEq, Nat.reduceLeDiff, Nat.reduceAdd, g2, fe, fi]
                exact hR _ _ ⟨rfl, hb08⟩
            · have g1 : decide (wrong (o.take k) ≥ 0) = true := decide_eq_true (by have := of_decide_eq_false (Bool.eq_false_iff.2 ta); omega)
              have hbs2 : basicS (toL s) = .error 30 := by rw [basicS, hf]; simp only [hcut, ta, if_false, Bool.false_eq_true]
              rw [hbs2] at hbs
              simp [basicV] at hbs
              obtain ⟨rfl, rfl, rfl⟩ := hbs
              simp only [push_cast, Nat.reduceBEq, Nat.reduceLeDiff, Nat.reduceAdd, g1, fe, fi]
              exact hR _ _ ⟨rfl, hb08⟩
          · have qx : decide ((o[k].toNat : Int) ≠ 58) = true := decide_eq_true (fun hh => hx (e58.1 hh))
            simp only [push_cast, Nat.reduceBEq, Nat.reduceLeDiff, Nat.reduceAdd, h131, qk, hcell, qx]
            refine ⟨⟨by omega, by omega⟩, hT (o.length - (k + 1)) _ _ (by simp only [push_cast, Nat.reduceBEq, Nat.reduceLeDiff]) (by omega) ⟨k + 1, by omega, rfl, ?_, fun x hx2 => ?_, rfl⟩⟩
            · simp only [push_cast, Nat.reduceBEq, Nat.reduceLeDiff]; rw [w64 (by omega) (by omega)]
            · rw [List.take_succ_eq_append_getElem hkl, List.mem_append, List.mem_singleton] at hx2
              rcases hx2 with hx2 | rfl
              · exact hno x hx2
              · exact hx
        · have qk : decide ((k : Int) < o.length) = false := decide_eq_false (by omega)
          have hbs2 : basicS (toL s) = .error 10 := by
            rw [basicS, hf]
            simp only [cut1_no 58 o (by rw [show o = o.take k by rw [List.take_of_length_le (by omega)]]; exact hno)]
          rw [hbs2] at hbs
          simp [basicV] at hbs
          obtain ⟨rfl, rfl, rfl⟩ := hbs
          simp only [push_cast, Nat.reduceBEq, Nat.reduceLeDiff, Nat.reduceAdd, h131, qk, fe, fi]
          exact hR _ _ ⟨rfl, hb08⟩
    | false =>
      have hR1 := hR00 rfl
      rw [hR1] at hbv
      simp [basicV] at hbv
      obtain ⟨rfl, rfl, rfl⟩ := hbv
      simp only [push_cast, Nat.reduceBEq, Nat.reduceLeDiff, Nat.reduceAdd, h10, ee, ei]
      refine (Basic_ s _ hG4 (by omega)).mono ?_
      rintro e w7 ⟨rfl, hb7⟩
      have hb07 := hb04.trans (hb7.mono hb04.size)
      rw [hbs]
      simp only [push_cast, Nat.reduceBEq, Nat.reduceLeDiff, Nat.reduceAdd]
      refine (FromStandard_ s w7 (by omega)).mono ?_
      rintro e w8 ⟨hP, hb8⟩
      have hb08 := hb07.trans (hb8.mono hb07.size)
      cases hf : fromS (toL s) with
      | none =>
        rw [hf] at hP
        cases hP
        have hbs2 : basicS (toL s) = .error 10 := by rw [basicS, hf]
        rw [hbs2] at hbs
        simp [basicV] at hbs
        obtain ⟨rfl, rfl, rfl⟩ := hbs
        simp only [push_cast, Nat.reduceBEq, Nat.reduceLeDiff, Nat.reduceAdd, fe, fi, q10]
        exact hR _ _ ⟨rfl, hb08⟩
      | some o =>
        rw [hf] at hP
        obtain ⟨v, rfl, hB, A, c, rfl, hc⟩ := hP
        have hol := fromS_len hf
        rw [toL_len] at hol
        simp only [push_cast, Nat.reduceBEq, Nat.reduceLeDiff, Nat.reduceAdd, q0]
        refine law_loop [(6, 6), (18, 18), (131, 183)] (fun n h w' => ∃ k : Nat, k ≤ o.length ∧ n = o.length - k ∧ h 131 = .int .i64 k ∧ (∀ x ∈ o.take k, x ≠ 58) ∧ w' = w8) o.length ⟨0, by omega, by omega, rfl, by simp, rfl⟩ ?_
        rintro n h w9 ⟨k, hk, hn, h131, hno, rfl⟩ T hT
        by_cases hkl : k < o.length
        · have qk : decide ((k : Int) < o.length) = true := decide_eq_true (by omega)
          rcases hB with ⟨_, _, _, rfl⟩ | ⟨b, off, c', hv, h2, h3⟩
          · simp at hkl
          have hB : BytesAt w9 (.slice A o.length c) o := .inr ⟨b, off, c', hv, h2, h3⟩
          have hcell := h3 k _ (List.getElem?_eq_getElem hkl)
          rw [show off + k = off + k * 1 by omega] at hcell
          cases hv
          have e58 : ((o[k].toNat : Int) = 58) ↔ o[k] = 58 := u8_eq o[k] 58
          by_cases hx : o[k] = 58
          · have qx : decide ((o[k].toNat : Int) ≠ 58) = false := decide_eq_false (fun hh => hh (e58.2 hx))
            have hcut := cut1_at 58 o k hkl hx hno
            obtain ⟨s1, t1⟩ := slc_h hB hc hk
            obtain ⟨s2, t2⟩ := slc_l hB hc (k := k + 1) (by omega)
            rw [show ((k + 1 : Nat) : Int) = (k : Int) + 1 from rfl] at s2
            have cb1 := conv_back t1
            have cb2 := conv_back t2
            have wk : IntKind.i64.wrap ((k : Int) + 1) = (k : Int) + 1 := w64 (by omega) (by omega)
            simp only [push_cast, Nat.reduceBEq, Nat.reduceLeDiff, Nat.reduceAdd, h131, qk, hcell, qx, s1, cb1]
            refine ⟨⟨by omega, by omega⟩, (rWrong (mkS (o.take k)) (by rw [size_mkS, List.length_take]; omega) _).mono ?_⟩
            rintro e w10 ⟨rfl, rfl⟩
            rw [toL_mkS]
            by_cases ta : told (o.take k) = true
            · have g1 : decide (wrong (o.take k) ≥ 0) = false := decide_eq_false (by have := of_decide_eq_true ta; omega)
              simp only [push_cast, Nat.reduceBEq, Nat.reduceLeDiff, Nat.reduceAdd, g1, wk, s2, cb2]
              refine (rWrong (mkS (o.drop (k + 1))) (by rw [size_mkS, List.length_drop]; omega) _).mono ?_
              rintro e w10 ⟨rfl, rfl⟩
              rw [toL_mkS]
              by_cases tb : told (o.drop (k + 1)) = true
              · have g2 : decide (wrong (o.drop (k + 1)) ≥ 0) = false := decide_eq_false (by have := of_decide_eq_true tb; omega)
                have hbs2 : basicS (toL s) = .ok (o.take k, o.drop (k + 1)) := by rw [basicS, hf]; simp only [hcut, ta, tb, if_true]
                rw [hbs2] at hbs
                simp [basicV] at hbs
                obtain ⟨rfl, rfl, rfl⟩ := hbs
                simp only [push_cast, Nat.reduceBEq, Nat.reduceLeDiff, Nat.reduceAdd, g2, wk, s1, s2, cb1, cb2, fe, fi]
                exact hR _ _ ⟨rfl, hb08⟩
              · have g2 : decide (wrong (o.drop (k + 1)) ≥ 0) = true := decide_eq_true (by have := of_decide_eq_false (Bool.eq_false_iff.2 tb); omega)
                have hbs2 : basicS (toL s) = .error 30 := by rw [basicS, hf]; simp only [hcut, ta, tb, if_true, if_false, Bool.false_eq_true]
                rw [hbs2] at hbs
                simp [basicV] at hbs
                obtain ⟨rfl, rfl, rfl⟩ := hbs
                simp only [push_cast, Nat.reduceBEq, Nat.reduceLeDiff, Nat.reduceAdd, g2, fe, fi]
                exact hR _ _ ⟨rfl, hb08⟩
            · have g1 : decide (wrong (o.take k) ≥ 0) = true := decide_eq_true (by have := of_decide_eq_false (Bool.eq_false_iff.2 ta); omega)
              have hbs2 : basicS (toL s) = .error 30 := by rw [basicS, hf]; simp only [hcut, ta, if_false, Bool.false_eq_true]
              rw [hbs2] at hbs
              simp [basicV] at hbs
              obtain ⟨rfl, rfl, rfl⟩ := hbs
              simp only [push_cast, Nat.reduceBEq, Nat.reduceLeDiff, Nat.reduceAdd, g1, fe, fi]
              exact hR _ _ ⟨rfl, hb08⟩
          · have qx : decide ((o[k].toNat : Int) ≠ 58) = true := decide_eq_true (fun hh => hx (e58.1 hh))
            simp only [push_cast, Nat.reduceBEq, Nat.reduceLeDiff, Nat.reduceAdd, h131, qk, hcell, qx]
            refine ⟨⟨by omega, by omega⟩, hT (o.length - (k + 1)) _ _ (by simp only [push_cast, Nat.reduceBEq, Nat.reduceLeDiff]) (by omega) ⟨k + 1, by omega, rfl, ?_, fun x hx2 => ?_, rfl⟩⟩
            · simp only [push_cast, Nat.reduceBEq, Nat.reduceLeDiff]; rw [w64 (by omega) (by omega)]
            · rw [List.take_succ_eq_append_getElem hkl, List.mem_append, List.mem_singleton] at hx2
              rcases hx2 with hx2 | rfl
              · exact hno x hx2
              · exact hx
        · have qk : decide ((k : Int) < o.length) = false := decide_eq_false (by omega)
          have hbs2 : basicS (toL s) = .error 10 := by
            rw [basicS, hf]
            simp only [cut1_no 58 o (by rw [show o = o.take k by rw [List.take_of_length_le (by omega)]]; exact hno)]
          rw [hbs2] at hbs
          simp [basicV] at hbs
          obtain ⟨rfl, rfl, rfl⟩ := hbs
          simp only [push_cast, Nat.reduceBEq, Nat.reduceLeDiff, Nat.reduceAdd, h131, qk, fe, fi]
          exact hR _ _ ⟨rfl, hb08⟩
  | true =>
    simp only [push_cast, Nat.reduceBEq, Nat.reduceLeDiff, Nat.reduceAdd, wu]
    refine (rWrong p (by omega) _).mono ?_
    rintro e w6 ⟨rfl, rfl⟩
    simp only [push_cast, Nat.reduceBEq, Nat.reduceLeDiff, Nat.reduceAdd, wp]
    cases col with
    | true =>
      simp only [push_cast, Nat.reduceBEq, Nat.reduceLeDiff, Nat.reduceAdd, h10]
      refine (Basic_ s _ hG4 (by omega)).mono ?_
      rintro e w7 ⟨rfl, hb7⟩
      have hb07 := hb04.trans (hb7.mono hb04.size)
      rw [hbs]
      simp only [push_cast, Nat.reduceBEq, Nat.reduceLeDiff, Nat.reduceAdd]
      refine (FromStandard_ s w7 (by omega)).mono ?_
      rintro e w8 ⟨hP, hb8⟩
      have hb08 := hb07.trans (hb8.mono hb07.size)
      cases hf : fromS (toL s) with
      | none =>
        rw [hf] at hP
        cases hP
        have hbs2 : basicS (toL s) = .error 10 := by rw [basicS, hf]
        rw [hbs2] at hbs
        simp [basicV] at hbs
        obtain ⟨rfl, rfl, rfl⟩ := hbs
        simp only [push_cast, Nat.reduceBEq, Nat.reduceLeDiff, Nat.reduceAdd, fe, fi, q10]
        exact hR _ _ ⟨rfl, hb08⟩
      | some o =>
        rw [hf] at hP
        obtain ⟨v, rfl, hB, A, c, rfl, hc⟩ := hP
        have hol := fromS_len hf
        rw [toL_len] at hol
        simp only [push_cast, Nat.reduceBEq, Nat.reduceLeDiff, Nat.reduceAdd, q0]
        refine law_loop [(6, 6), (18, 18), (131, 183)] (fun n h w' => ∃ k : Nat, k ≤ o.length ∧ n = o.length - k ∧ h 131 = .int .i64 k ∧ (∀ x ∈ o.take k, x ≠ 58) ∧ w' = w8) o.length ⟨0, by omega, by omega, rfl, by simp, rfl⟩ ?_
        rintro n h w9 ⟨k, hk, hn, h131, hno, rfl⟩ T hT
        by_cases hkl : k < o.length
        · have qk : decide ((k : Int) < o.length) = true := decide_eq_true (by omega)
          rcases hB with ⟨_, _, _, rfl⟩ | ⟨b, off, c', hv, h2, h3⟩
          · simp at hkl
          have hB : BytesAt w9 (.slice A o.length c) o := .inr ⟨b, off, c', hv, h2, h3⟩
          have hcell := h3 k _ (List.getElem?_eq_getElem hkl)
          rw [show off + k = off + k * 1 by omega] at hcell
          cases hv
          have e58 : ((o[k].toNat : Int) = 58) ↔ o[k] = 58 := u8_eq o[k] 58
          by_cases hx : o[k] = 58
          · have qx : decide ((o[k].toNat : Int) ≠ 58) = false := decide_eq_false (fun hh => hh (e58.2 hx))
            have hcut := cut1_at 58 o k hkl hx hno
            obtain ⟨s1, t1⟩ := slc_h hB hc hk
            obtain ⟨s2, t2⟩ := slc_l hB hc (k := k + 1) (by omega)
            rw [show ((k + 1 : Nat) : Int) = (k : Int) + 1 from rfl] at s2
            have cb1 := conv_back t1
            have cb2 := conv_back t2
            have wk : IntKind.i64.wrap ((k : Int) + 1) = (k : Int) + 1 := w64 (by omega) (by omega)
            simp only [push_cast, Nat.reduceBEq, Nat.reduceLeDiff, Nat.reduceAdd, h131, qk, hcell, qx, s1, cb1]
            refine ⟨⟨by omega, by omega⟩, (rWrong (mkS (o.take k)) (by rw [size_mkS, List.length_take]; omega) _).mono ?_⟩
            rintro e w10 ⟨rfl, rfl⟩
            rw [toL_mkS]
            by_cases ta : told (o.take k) = true
            · have g1 : decide (wrong (o.take k) ≥ 0) = false := decide_eq_false (by have := of_decide_eq_true ta; omega)
              simp only [push_cast, Nat.reduceBEq, Nat.reduceLeDiff, Nat.reduceAdd, g1, wk, s2, cb2]
              refine (rWrong (mkS (o.drop (k + 1))) (by rw [size_mkS, List.length_drop]; omega) _).mono ?_
              rintro e w10 ⟨rfl, rfl⟩
              rw [toL_mkS]
              by_cases tb : told (o.drop (k + 1)) = true
              · have g2 : decide (wrong (o.drop (k + 1)) ≥ 0) = false := decide_eq_false (by have := of_decide_eq_true tb; omega)
                have hbs2 : basicS (toL s) = .ok (o.take k, o.drop (k + 1)) := by rw [basicS, hf]; simp only [hcut, ta, tb, if_true]
                rw [hbs2] at hbs
                simp [basicV] at hbs
                obtain ⟨rfl, rfl, rfl⟩ := hbs
                simp only [push_cast, Nat.reduceBEq, Nat.reduceLeDiff, Nat.reduceAdd, g2, wk, s1, s2, cb1, cb2, fe, fi]
                exact hR _ _ ⟨rfl, hb08⟩
              · have g2 : decide (wrong (o.drop (k + 1)) ≥ 0) = true := decide_eq_true (by have := of_decide_eq_false (Bool.eq_false_iff.2 tb); omega)
                have hbs2 : basicS (toL s) = .error 30 := by rw [basicS, hf]; simp only [hcut, ta, tb, if_true, if_false, Bool.false_eq_true]
                rw [hbs2] at hbs
                simp [basicV] at hbs
                obtain ⟨rfl, rfl, rfl⟩ := hbs
                simp only [push_cast, Nat.reduceBEq, Nat.reduceLeDiff, Nat.reduceAdd, g2, fe, fi]
                exact hR _ _ ⟨rfl, hb08⟩
            · have g1 : decide (wrong (o.take k) ≥ 0) = true := decide_eq_true (by have := of_decide_eq_false (Bool.eq_false_iff.2 ta); omega)
              have hbs2 : basicS (toL s) = .error 30 := by rw [basicS, hf]; simp only [hcut, ta, if_false, Bool.false_eq_true]
              rw [hbs2] at hbs
              simp [basicV] at hbs
              obtain ⟨rfl, rfl, rfl⟩ := hbs
              simp only [push_cast, Nat.reduceBEq, Nat.reduceLeDiff, Nat.reduceAdd, g1, fe, fi]
              exact hR _ _ ⟨rfl, hb08⟩
          · have qx : decide ((o[k].toNat : Int) ≠ 58) = true := decide_eq_true (fun hh => hx (e58.1 hh))
            simp only [push_cast, Nat.reduceBEq, Nat.reduceLeDiff, Nat.reduceAdd, h131, qk, hcell, qx]
            refine ⟨⟨by omega, by omega⟩, hT (o.length - (k + 1)) _ _ (by simp only [push_cast, Nat.reduceBEq, Nat.reduceLeDiff]) (by omega) ⟨k + 1, by omega, rfl, ?_, fun x hx2 => ?_, rfl⟩⟩
            · simp only [push_cast, Nat.reduceBEq, Nat.reduceLeDiff]; rw [w64 (by omega) (by omega)]
            · rw [List.take_succ_eq_append_getElem hkl, List.mem_append, List.mem_singleton] at hx2
              rcases hx2 with hx2 | rfl
              · exact hno x hx2
              · exact hx
        · have qk : decide ((k : Int) < o.length) = false := decide_eq_false (by omega)
          have hbs2 : basicS (toL s) = .error 10 := by
            rw [basicS, hf]
            simp only [cut1_no 58 o (by rw [show o = o.take k by rw [List.take_of_length_le (by omega)]]; exact hno)]
          rw [hbs2] at hbs
          simp [basicV] at hbs
          obtain ⟨rfl, rfl, rfl⟩ := hbs
          simp only [push_cast, Nat.reduceBEq, Nat.reduceLeDiff, Nat.reduceAdd, h131, qk, fe, fi]
          exact hR _ _ ⟨rfl, hb08⟩
    | false =>
      have hR1 := hR00 rfl
      rw [hR1] at hbv
      cases tp
      · simp [basicV] at hbv
        obtain ⟨rfl, rfl, rfl⟩ := hbv
        simp only [push_cast, Nat.reduceBEq, Nat.reduceLeDiff, Nat.reduceAdd, h10, ee, ei]
        refine (Basic_ s _ hG4 (by omega)).mono ?_
        rintro e w7 ⟨rfl, hb7⟩
        have hb07 := hb04.trans (hb7.mono hb04.size)
        rw [hbs]
        simp only [push_cast, Nat.reduceBEq, Nat.reduceLeDiff, Nat.reduceAdd]
        refine (FromStandard_ s w7 (by omega)).mono ?_
        rintro e w8 ⟨hP, hb8⟩
        have hb08 := hb07.trans (hb8.mono hb07.size)
        cases hf : fromS (toL s) with
        | none =>
          rw [hf] at hP
          cases hP
          have hbs2 : basicS (toL s) = .error 10 := by rw [basicS, hf]
          rw [hbs2] at hbs
          simp [basicV] at hbs
          obtain ⟨rfl, rfl, rfl⟩ := hbs
          simp only [push_cast, Nat.reduceBEq, Nat.reduceLeDiff, Nat.reduceAdd, fe, fi, q10]
          exact hR _ _ ⟨rfl, hb08⟩
        | some o =>
          rw [hf] at hP
          obtain ⟨v, rfl, hB, A, c, rfl, hc⟩ := hP
          have hol := fromS_len hf
          rw [toL_len] at hol
          simp only [push_cast, Nat.reduceBEq, Nat.reduceLeDiff, Nat.reduceAdd, q0]
          refine law_loop [(6, 6), (18, 18), (131, 183)] (fun n h w' => ∃ k : Nat, k ≤ o.length ∧ n = o.length - k ∧ h 131 = .int .i64 k ∧ (∀ x ∈ o.take k, x ≠ 58) ∧ w' = w8) o.length ⟨0, by omega, by omega, rfl, by simp, rfl⟩ ?_
          rintro n h w9 ⟨k, hk, hn, h131, hno, rfl⟩ T hT
          by_cases hkl : k < o.length
          · have qk : decide ((k : Int) < o.length) = true := decide_eq_true (by omega)
            rcases hB with ⟨_, _, _, rfl⟩ | ⟨b, off, c', hv, h2, h3⟩
            · simp at hkl
            have hB : BytesAt w9 (.slice A o.length c) o := .inr ⟨b, off, c', hv, h2, h3⟩
            have hcell := h3 k _ (List.getElem?_eq_getElem hkl)
            rw [show off + k = off + k * 1 by omega] at hcell
            cases hv
            have e58 : ((o[k].toNat : Int) = 58) ↔ o[k] = 58 := u8_eq o[k] 58
            by_cases hx : o[k] = 58
            · have qx : decide ((o[k].toNat : Int) ≠ 58) = false := decide_eq_false (fun hh => hh (e58.2 hx))
              have hcut := cut1_at 58 o k hkl hx hno
              obtain ⟨s1, t1⟩ := slc_h hB hc hk
              obtain ⟨s2, t2⟩ := slc_l hB hc (k := k + 1) (by omega)
              rw [show ((k + 1 : Nat) : Int) = (k : Int) + 1 from rfl] at s2
              have cb1 := conv_back t1
              have cb2 := conv_back t2
              have wk : IntKind.i64.wrap ((k : Int) + 1) = (k : Int) + 1 := w64 (by omega) (by omega)
              simp only [push_cast, Nat.reduceBEq, Nat.reduceLeDiff, Nat.reduceAdd, h131, qk, hcell, qx, s1, cb1]
              refine ⟨⟨by omega, by omega⟩, (rWrong (mkS (o.take k)) (by rw [size_mkS, List.length_take]; omega) _).mono ?_⟩
              rintro e w10 ⟨rfl, rfl⟩
              rw [toL_mkS]
              by_cases ta : told (o.take k) = true
              · have g1 : decide (wrong (o.take k) ≥ 0) = false := decide_eq_false (by have := of_decide_eq_true ta; omega)
                simp only [push_cast, Nat.reduceBEq, Nat.reduceLeDiff, Nat.reduceAdd, g1, wk, s2, cb2]
                refine (rWrong (mkS (o.drop (k + 1))) (by rw [size_mkS, List.length_drop]; omega) _).mono ?_
                rintro e w10 ⟨rfl, rfl⟩
                rw [toL_mkS]
                by_cases tb : told (o.drop (k + 1)) = true
                · have g2 : decide (wrong (o.drop (k + 1)) ≥ 0) = false := decide_eq_false (by have := of_decide_eq_true tb; omega)
                  have hbs2 : basicS (toL s) = .ok (o.take k, o.drop (k + 1)) := by rw [basicS, hf]; simp only [hcut, ta, tb, if_true]
                  rw [hbs2] at hbs
                  simp [basicV] at hbs
                  obtain ⟨rfl, rfl, rfl⟩ := hbs
                  simp only [push_cast, Nat.reduceBEq, Nat.reduceLeDiff, Nat.reduceAdd, g2, wk, s1, s2, cb1, cb2, fe, fi]
                  exact hR _ _ ⟨rfl, hb08⟩
                · have g2 : decide (wrong (o.drop (k + 1)) ≥ 0) = true := decide_eq_true (by have := of_decide_eq_false (Bool.eq_false_iff.2 tb); omega)
                  have hbs2 : basicS (toL s) = .error 30 := by rw [basicS, hf]; simp only [hcut, ta, tb, if_true, if_false, Bool.false_eq_true]
                  rw [hbs2] at hbs
                  simp [basicV] at hbs
                  obtain ⟨rfl, rfl, rfl⟩ := hbs
                  simp only [push_cast, Nat.reduceBEq, Nat.reduceLeDiff, Nat.reduceAdd, g2, fe, fi]
                  exact hR _ _ ⟨rfl, hb08⟩
              · have g1 : decide (wrong (o.take k) ≥ 0) = true := decide_eq_true (by have := of_decide_eq_false (Bool.eq_false_iff.2 ta); omega)
                have hbs2 : basicS (toL s) = .error 30 := by rw [basicS, hf]; simp only [hcut, ta, if_false, Bool.false_eq_true]
                rw [hbs2] at hbs
                simp [basicV] at hbs
                obtain ⟨rfl, rfl, rfl⟩ := hbs
                simp only [push_cast, Nat.reduceBEq, Nat.reduceLeDiff, Nat.reduceAdd, g1, fe, fi]
                exact hR _ _ ⟨rfl, hb08⟩
            · have qx : decide ((o[k].toNat : Int) ≠ 58) = true := decide_eq_true (fun hh => hx (e58.1 hh))
              simp only [push_cast, Nat.reduceBEq, Nat.reduceLeDiff, Nat.reduceAdd, h131, qk, hcell, qx]
              refine ⟨⟨by omega, by omega⟩, hT (o.length - (k + 1)) _ _ (by simp only [push_cast, Nat.reduceBEq, Nat.reduceLeDiff]) (by omega) ⟨k + 1, by omega, rfl, ?_, fun x hx2 => ?_, rfl⟩⟩
              · simp only [push_cast, Nat.reduceBEq, Nat.reduceLeDiff]; rw [w64 (by omega) (by omega)]
              · rw [List.take_succ_eq_append_getElem hkl, List.mem_append, List.mem_singleton] at hx2
                rcases hx2 with hx2 | rfl
                · exact hno x hx2
                · exact hx
          · have qk : decide ((k : Int) < o.length) = false := decide_eq_false (by omega)
            have hbs2 : basicS (toL s) = .error 10 := by
              rw [basicS, hf]
              simp only [cut1_no 58 o (by rw [show o = o.take k by rw [List.take_of_length_le (by omega)]]; exact hno)]
            rw [hbs2] at hbs
            simp [basicV] at hbs
            obtain ⟨rfl, rfl, rfl⟩ := hbs
            simp only [push_cast, Nat.reduceBEq, Nat.reduceLeDiff, Nat.reduceAdd, h131, qk, fe, fi]
            exact hR _ _ ⟨rfl, hb08⟩
      · simp [basicV, mkS_toL] at hbv
        obtain ⟨rfl, rfl, rfl⟩ := hbv
        simp only [push_cast, Nat.reduceBEq, Nat.reduceLeDiff, Nat.reduceAdd, h10, ee, ei]
        refine (Basic_ s _ hG4 (by omega)).mono ?_
        rintro e w7 ⟨rfl, hb7⟩
        have hb07 := hb04.trans (hb7.mono hb04.size)
        rw [hbs]
        simp only [push_cast, Nat.reduceBEq, Nat.reduceLeDiff, Nat.reduceAdd]
        refine (FromStandard_ s w7 (by omega)).mono ?_
        rintro e w8 ⟨hP, hb8⟩
        have hb08 := hb07.trans (hb8.mono hb07.size)
        cases hf : fromS (toL s) with
        | none =>
          rw [hf] at hP
          cases hP
          have hbs2 : basicS (toL s) = .error 10 := by rw [basicS, hf]
          rw [hbs2] at hbs
          simp [basicV] at hbs
          obtain ⟨rfl, rfl, rfl⟩ := hbs
          simp only [push_cast, Nat.reduceBEq, Nat.reduceLeDiff, Nat.reduceAdd, fe, fi, q10]
          exact hR _ _ ⟨rfl, hb08⟩
        | some o =>
          rw [hf] at hP
          obtain ⟨v, rfl, hB, A, c, rfl, hc⟩ := hP
          have hol := fromS_len hf
          rw [toL_len] at hol
          simp only [push_cast, Nat.reduceBEq, Nat.reduceLeDiff, Nat.reduceAdd, q0]
          refine law_loop [(6, 6), (18, 18), (131, 183)] (fun n h w' => ∃ k : Nat, k ≤ o.length ∧ n = o.length - k ∧ h 131 = .int .i64 k ∧ (∀ x ∈ o.take k, x ≠ 58) ∧ w' = w8) o.length ⟨0, by omega, by omega, rfl, by simp, rfl⟩ ?_
          rintro n h w9 ⟨k, hk, hn, h131, hno, rfl⟩ T hT
          by_cases hkl : k < o.length
          · have qk : decide ((k : Int) < o.length) = true := decide_eq_true (by omega)
            rcases hB with ⟨_, _, _, rfl⟩ | ⟨b, off, c', hv, h2, h3⟩
            · simp at hkl
            have hB : BytesAt w9 (.slice A o.length c) o := .inr ⟨b, off, c', hv, h2, h3⟩
            have hcell := h3 k _ (List.getElem?_eq_getElem hkl)
            rw [show off + k = off + k * 1 by omega] at hcell
            cases hv
            have e58 : ((o[k].toNat : Int) = 58) ↔ o[k] = 58 := u8_eq o[k] 58
            by_cases hx : o[k] = 58
            · have qx : decide ((o[k].toNat : Int) ≠ 58) = false := decide_eq_false (fun hh => hh (e58.2 hx))
              have hcut := cut1_at 58 o k hkl hx hno
              obtain ⟨s1, t1⟩ := slc_h hB hc hk
              obtain ⟨s2, t2⟩ := slc_l hB hc (k := k + 1) (by omega)
              rw [show ((k + 1 : Nat) : Int) = (k : Int) + 1 from rfl] at s2
              have cb1 := conv_back t1
              have cb2 := conv_back t2
              have wk : IntKind.i64.wrap ((k : Int) + 1) = (k : Int) + 1 := w64 (by omega) (by omega)
              simp only [push_cast, Nat.reduceBEq, Nat.reduceLeDiff, Nat.reduceAdd, h131, qk, hcell, qx, s1, cb1]
              refine ⟨⟨by omega, by omega⟩, (rWrong (mkS (o.take k)) (by rw [size_mkS, List.length_take]; omega) _).mono ?_⟩
              rintro e w10 ⟨rfl, rfl⟩
              rw [toL_mkS]
              by_cases ta : told (o.take k) = true
              · have g1 : decide (wrong (o.take k) ≥ 0) = false := decide_eq_false (by have := of_decide_eq_true ta; omega)
                simp only [push_cast, Nat.reduceBEq, Nat.reduceLeDiff, Nat.reduceAdd, g1, wk, s2, cb2]
                refine (rWrong (mkS (o.drop (k + 1))) (by rw [size_mkS, List.length_drop]; omega) _).mono ?_
                rintro e w10 ⟨rfl, rfl⟩
                rw [toL_mkS]
                by_cases tb : told (o.drop (k + 1)) = true
                · have g2 : decide (wrong (o.drop (k + 1)) ≥ 0) = false := decide_eq_false (by have := of_decide_eq_true tb; omega)
                  have hbs2 : basicS (toL s) = .ok (o.take k, o.drop (k + 1)) := by rw [basicS, hf]; simp only [hcut, ta, tb, if_true]
                  rw [hbs2] at hbs
                  simp [basicV] at hbs
                  obtain ⟨rfl, rfl, rfl⟩ := hbs
                  simp only [push_cast, Nat.reduceBEq, Nat.reduceLeDiff, Nat.reduceAdd, g2, wk, s1, s2, cb1, cb2, fe, fi]
                  exact hR _ _ ⟨rfl, hb08⟩
                · have g2 : decide (wrong (o.drop (k + 1)) ≥ 0) = true := decide_eq_true (by have := of_decide_eq_false (Bool.eq_false_iff.2 tb); omega)
                  have hbs2 : basicS (toL s) = .error 30 := by rw [basicS, hf]; simp only [hcut, ta, tb, if_true, if_false, Bool.false_eq_true]
                  rw [hbs2] at hbs
                  simp [basicV] at hbs
                  obtain ⟨rfl, rfl, rfl⟩ := hbs
                  simp only [push_cast, Nat.reduceBEq, Nat.reduceLeDiff, Nat.reduceAdd, g2, fe, fi]
                  exact hR _ _ ⟨rfl, hb08⟩
              · have g1 : decide (wrong (o.take k) ≥ 0) = true := decide_eq_true (by have := of_decide_eq_false (Bool.eq_false_iff.2 ta); omega)
                have hbs2 : basicS (toL s) = .error 30 := by rw [basicS, hf]; simp only [hcut, ta, if_false, Bool.false_eq_true]
                rw [hbs2] at hbs
                simp [basicV] at hbs
                obtain ⟨rfl, rfl, rfl⟩ := hbs
                simp only [push_cast, Nat.reduceBEq, Nat.reduceLeDiff, Nat.reduceAdd, g1, fe, fi]
                exact hR _ _ ⟨rfl, hb08⟩
            · have qx : decide ((o[k].toNat : Int) ≠ 58) = true := decide_eq_true (fun hh => hx (e58.1 hh))
              simp only [push_cast, Nat.reduceBEq, Nat.reduceLeDiff, Nat.reduceAdd, h131, qk, hcell, qx]
              refine ⟨⟨by omega, by omega⟩, hT (o.length - (k + 1)) _ _ (by simp only [push_cast, Nat.reduceBEq, Nat.reduceLeDiff]) (by omega) ⟨k + 1, by omega, rfl, ?_, fun x hx2 => ?_, rfl⟩⟩
              · simp only [push_cast, Nat.reduceBEq, Nat.reduceLeDiff]; rw [w64 (by omega) (by omega)]
              · rw [List.take_succ_eq_append_getElem hkl, List.mem_append, List.mem_singleton] at hx2
                rcases hx2 with hx2 | rfl
                · exact hno x hx2
                · exact hx
          · have qk : decide ((k : Int) < o.length) = false := decide_eq_false (by omega)
            have hbs2 : basicS (toL s) = .error 10 := by
              rw [basicS, hf]
              simp only [cut1_no 58 o (by rw [show o = o.take k by rw [List.take_of_length_le (by omega)]]; exact hno)]
            rw [hbs2] at hbs
            simp [basicV] at hbs
            obtain ⟨rfl, rfl, rfl⟩ := hbs
            simp only [push_cast, Nat.reduceBEq, Nat.reduceLeDiff, Nat.reduceAdd, h131, qk, fe, fi]
            exact hR _ _ ⟨rfl, hb08⟩
end Go.Proofs.YtciepffocobgpaaGreatDoor
