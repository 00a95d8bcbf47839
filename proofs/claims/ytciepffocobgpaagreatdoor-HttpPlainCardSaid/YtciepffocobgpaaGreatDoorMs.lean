/- The contracts of the reference of requests; the plain law that both agree. -/
import Derived.Test.YtciepffocobgpaaGreatDoorMb
import Derived.Test.YtciepffocobgpaaGreatDoorMr
import Derived.Maps.AppendAt
namespace Go.Proofs.YtciepffocobgpaaGreatDoor
open Go Go.Sx
set_option linter.unusedSimpArgs false
def okcr (small digit : Bool) (c : Int) : Bool := ((decide (65 ≤ c) && decide (c ≤ 90)) || (small && decide (97 ≤ c) && decide (c ≤ 122))) || (digit && decide (48 ≤ c) && decide (c ≤ 57))
def inBr (small digit : Bool) (more : Bytes) (l : Bytes) : Bool := l.all fun c => okcr small digit c.toNat || more.contains c
theorem in_any (s : ByteArray) (small digit : Bool) (more : ByteArray) (most : Int) (w : World) (hs : s.size ≤ 9223372036854775807) (hm : more.size ≤ 9223372036854775807) :
    Calls Tryz.prog 54 #[.string s, .bool small, .bool digit, .string more, .int .i64 most] w fun e w' =>
      e = .returned (.bool (inBr small digit (toL more) (toL s) && (decide ((1 : Int) ≤ s.size) && decide ((s.size : Int) ≤ most)))) ∧ w = w' := by
  refine calls_X Tryz.func54 rfl Tryz.ntmps54 Tryz.results54 rfl rfl (by kernel_rfl) fun R hR => ?_
  simp only [push_cast, Nat.reduceBEq, Nat.reduceLeDiff]
  refine law_loop [(10, 67)] (fun n h w' => ∃ k : Nat, k ≤ s.size ∧ n = s.size - k ∧ h 11 = .int .i64 k ∧ inBr small digit (toL more) ((toL s).take k) = true ∧ w = w') s.size ⟨0, by omega, by omega, rfl, rfl, rfl⟩ ?_
  rintro n h w' ⟨k, hk, hn, h11, hall, rfl⟩ T hT
  simp only [push_cast, Nat.reduceBEq, Nat.reduceLeDiff, h11]
  refine ⟨fun hc => ⟨by simp at hc; omega, ?_⟩, fun hc => ?_⟩
  · simp only [decide_eq_true_eq, Int.ofNat_lt] at hc
    obtain ⟨c, hc1, hc2, hc3⟩ := take_bt s k hc
    refine law_loop [(13, 14), (52, 65)] (fun n h w' => ∃ j : Nat, j ≤ more.size ∧ n = more.size - j ∧ h 14 = .int .i64 j ∧ h 13 = .bool (okcr small digit c.toNat || ((toL more).take j).contains c) ∧ w = w') more.size ⟨0, by omega, by omega, rfl, ?_, rfl⟩ ?_
    · simp only [push_cast, Nat.reduceBEq, Nat.reduceLeDiff, hc3, okcr, List.take_zero, List.contains_nil]
    rintro n2 h2 w' ⟨j, hj, hn2, h14, h13, rfl⟩ T2 hT2
    simp only [push_cast, Nat.reduceBEq, Nat.reduceLeDiff, h11, h14, h13]
    refine ⟨fun hd => ?_, fun hd => ?_⟩
    · simp only [decide_eq_true_eq, Int.ofNat_lt] at hd
      obtain ⟨d, hd1, hd2, hd3⟩ := take_bt more j hd
      refine ⟨fun _ => by omega, hT2 (more.size - (j + 1)) _ _ (by simp only [push_cast, Nat.reduceBEq, Nat.reduceLeDiff]) (by omega) ⟨j + 1, by omega, rfl, ?_, ?_, rfl⟩⟩
      · simp only [push_cast, Nat.reduceBEq, Nat.reduceLeDiff, w64 (n := (j : Int) + 1) (by omega) (by omega)]
      · simp only [push_cast, Nat.reduceBEq, Nat.reduceLeDiff, hd2, hd3, hc3, dec_beq, List.contains_append, List.contains_cons, List.contains_nil, Bool.or_assoc]
    · simp only [decide_eq_false_iff_not, Int.ofNat_lt, Nat.not_lt] at hd
      rw [take_all more j hd]
      simp only [Bool.not_eq_true', Bool.not_eq_false'] 
      refine ⟨fun hb => hR _ _ ⟨?_, rfl⟩, fun hb => hT (s.size - (k + 1)) _ _ (by simp only [push_cast, Nat.reduceBEq, Nat.reduceLeDiff]) (by omega) ⟨k + 1, by omega, rfl, ?_, ?_, rfl⟩⟩
      · have : inBr small digit (toL more) (toL s) = false := by
          unfold inBr
          rw [List.all_eq_false]
          exact ⟨c, List.mem_of_getElem? hc1, by simpa using hb⟩
        rw [this]; rfl
      · simp only [push_cast, Nat.reduceBEq, Nat.reduceLeDiff, h11, w64 (n := (k : Int) + 1) (by omega) (by omega)]
      · rw [hc2]; unfold inBr at hall ⊢; rw [List.all_append, hall]; simp only [List.all_cons, List.all_nil, hb]; rfl
  · simp only [decide_eq_false_iff_not, Int.ofNat_lt, Nat.not_lt] at hc
    rw [take_all s k hc] at hall
    refine hR _ _ ⟨?_, rfl⟩
    rw [hall]; rfl
end Go.Proofs.YtciepffocobgpaaGreatDoor
namespace Go.Proofs.YtciepffocobgpaaGreatDoor
open Go Go.Sx Go.RowKit
set_option linter.unusedSimpArgs false
set_option linter.unusedVariables false
/-- The reference's reading, as plain data. -/
structure RS where
  m : Bytes
  p : Bytes
  q : List Pr
  ns : List Bytes
  vs : List Bytes
  b : Bytes
  e : Int
  r : Bytes
/-- .. in its block of eight cells. -/
structure RBlk (w : World) (b : Nat) (v2 v3 v4 : Value) (s : RS) : Prop where
  c0 : w.cell? ⟨b, 0, none⟩ = some (.string (mkS s.m))
  c1 : w.cell? ⟨b, 1, none⟩ = some (.string (mkS s.p))
  c2 : w.cell? ⟨b, 2, none⟩ = some v2
  c3 : w.cell? ⟨b, 3, none⟩ = some v3
  c4 : w.cell? ⟨b, 4, none⟩ = some v4
  c5 : w.cell? ⟨b, 5, none⟩ = some (.string (mkS s.b))
  c6 : w.cell? ⟨b, 6, none⟩ = some (.int .i64 s.e)
  c7 : w.cell? ⟨b, 7, none⟩ = some (.string (mkS s.r))
  f : ∀ i, w.frozen? ⟨b, i, none⟩ = false
  lt : b < w.heap.size
  q : PairsAt w v2 s.q
  qf : FreshV (b + 1) v2
  n : w.ownsRow (b + 1) 9 1 v3 s.ns.length (strCs s.ns)
  v : w.ownsRow (b + 1) 9 1 v4 s.vs.length (strCs s.vs)
  ne : v3.ownBlock = none ∨ v3.ownBlock ≠ v4.ownBlock
  n2 : v2.ownBlock = none ∨ (v2.ownBlock ≠ v3.ownBlock ∧ v2.ownBlock ≠ v4.ownBlock)
theorem RBlk.step {w w' : World} {b : Nat} {v2 v3 v4 : Value} {s : RS} (h : RBlk w b v2 v3 v4 s) (hb : Below w.heap.size w w') : RBlk w' b v2 v3 v4 s :=
  ⟨(hb.cell (p := ⟨b, 0, none⟩) h.lt).trans h.c0, (hb.cell (p := ⟨b, 1, none⟩) h.lt).trans h.c1, (hb.cell (p := ⟨b, 2, none⟩) h.lt).trans h.c2, (hb.cell (p := ⟨b, 3, none⟩) h.lt).trans h.c3, (hb.cell (p := ⟨b, 4, none⟩) h.lt).trans h.c4, (hb.cell (p := ⟨b, 5, none⟩) h.lt).trans h.c5, (hb.cell (p := ⟨b, 6, none⟩) h.lt).trans h.c6, (hb.cell (p := ⟨b, 7, none⟩) h.lt).trans h.c7, fun i => (hb.frozen (p := ⟨b, i, none⟩) h.lt).trans (h.f i), Nat.lt_of_lt_of_le h.lt hb.size, pairsAt_below h.q hb, h.qf, own_below h.n hb, own_below h.v hb, h.ne, h.n2⟩
theorem own_set {w : World} {B b i size n : Nat} {T : TypeId} {v x : Value} {xs : List Value} (h : w.ownsRow B T size v n xs) (hb : b < B) : (w.setCell ⟨b, i, none⟩ x).ownsRow B T size v n xs :=
  ownsRow_setCell_below h (a := ⟨b, i, none⟩) hb x
def failS (e : Int) (s : RS) : RS := if s.e = 0 then { s with e := e } else s
theorem RBlk.set6 {w : World} {b : Nat} {v2 v3 v4 : Value} {s : RS} (h : RBlk w b v2 v3 v4 s) (e : Int) : RBlk (w.setCell ⟨b, 6, none⟩ (.int .i64 e)) b v2 v3 v4 { s with e := e } :=
  ⟨by rw [sc_cell]; exact h.c0, by rw [sc_cell]; exact h.c1, by rw [sc_cell]; exact h.c2, by rw [sc_cell]; exact h.c3, by rw [sc_cell]; exact h.c4, by rw [sc_cell]; exact h.c5, by rw [sc_cell, h.c6]; rfl, by rw [sc_cell]; exact h.c7, fun i => by rw [sc_frz]; exact h.f i, by rw [sc_size]; exact h.lt, pairsAt_set h.q h.qf (Nat.lt_succ_self _), h.qf, own_set h.n (Nat.lt_succ_self _), own_set h.v (Nat.lt_succ_self _), h.ne, h.n2⟩
theorem own_grown {w w' : World} {B size n : Nat} {T : TypeId} {v : Value} {xs : List Value} {row : Option Nat} (h : w.ownsRow B T size v n xs) (hg : w.grownBy w' row) (hr : v.ownBlock = none ∨ row ≠ v.ownBlock) : w'.ownsRow B T size v n xs := by
  refine ⟨h.1, ?_⟩
  rcases h.2 with hn | ⟨g, cap, cur, rfl, hB, hgg, rest⟩
  · exact .inl hn
  · refine .inr ⟨g, cap, cur, rfl, hB, ?_, rest⟩
    have hlt := (Array.getElem?_eq_some_iff.1 hgg).1
    rw [hg.block g hlt]
    · exact hgg
    · rcases hr with hr | hr
      · cases hr
      · exact fun e => hr e.symm
theorem pairsAt_grown {w w' : World} {v : Value} {ps : List Pr} {row : Option Nat} (h : PairsAt w v ps) (hg : w.grownBy w' row) (hr : v.ownBlock = none ∨ row ≠ v.ownBlock) : PairsAt w' v ps := by
  rcases h with h | ⟨b, o, c, rfl, h2, h3⟩
  · exact .inl h
  · have hh : w'.heap[b]? = w.heap[b]? := hg.block b h2 (by
      rcases hr with hr | hr
      · cases hr
      · exact fun e => hr e.symm)
    exact .inr ⟨b, o, c, rfl, Nat.lt_of_lt_of_le h2 hg.size, fun j p hj => ⟨(World.cell?_of_block hh).trans (h3 j p hj).1, (World.cell?_of_block hh).trans (h3 j p hj).2⟩⟩
theorem rfail (b : Nat) (v2 v3 v4 : Value) (s : RS) (e : Int) (w : World) (h : RBlk w b v2 v3 v4 s) :
    Calls Tryz.prog 25 #[.pointer (some ⟨b, 0, none⟩), .int .i64 e] w fun r w' => r = .returned (.tuple #[]) ∧ RBlk w' b v2 v3 v4 (failS e s) ∧ Below b w w' := by
  refine calls_X Tryz.func25 rfl Tryz.ntmps25 Tryz.results25 rfl rfl (by kernel_rfl) fun R hR => ?_
  simp only [push_cast, Nat.reduceBEq, Nat.reduceLeDiff, Nat.reduceAdd, h.c6, h.f]
  refine ⟨fun h0 => ?_, fun h0 => ?_⟩
  · simp only [decide_eq_true_eq] at h0
    exact hR _ _ ⟨rfl, by rw [failS, if_pos h0]; exact h.set6 e, (Below.refl _ _).setCell (p := ⟨b, 6, none⟩) (Nat.le_refl _) _⟩
  · simp only [decide_eq_false_iff_not] at h0
    exact hR _ _ ⟨rfl, by rw [failS, if_neg h0]; exact h, Below.refl _ _⟩
end Go.Proofs.YtciepffocobgpaaGreatDoor
namespace Go.Proofs.YtciepffocobgpaaGreatDoor
open Go Go.Sx Go.RowKit
set_option linter.unusedSimpArgs false
set_option linter.unusedVariables false
def lineS (s : RS) : Bytes × RS := match cutLine s.r with | some (a, b) => (a, { s with r := b }) | none => ([], failS 31 s)
theorem RBlk.set7 {w : World} {b : Nat} {v2 v3 v4 : Value} {s : RS} (h : RBlk w b v2 v3 v4 s) (r : Bytes) : RBlk (w.setCell ⟨b, 7, none⟩ (.string (mkS r))) b v2 v3 v4 { s with r := r } :=
  ⟨by rw [sc_cell]; exact h.c0, by rw [sc_cell]; exact h.c1, by rw [sc_cell]; exact h.c2, by rw [sc_cell]; exact h.c3, by rw [sc_cell]; exact h.c4, by rw [sc_cell]; exact h.c5, by rw [sc_cell]; exact h.c6, by rw [sc_cell, h.c7]; rfl, fun i => by rw [sc_frz]; exact h.f i, by rw [sc_size]; exact h.lt, pairsAt_set h.q h.qf (Nat.lt_succ_self _), h.qf, own_set h.n (Nat.lt_succ_self _), own_set h.v (Nat.lt_succ_self _), h.ne, h.n2⟩
theorem rline (b : Nat) (v2 v3 v4 : Value) (s : RS) (hs : s.r.length ≤ 1000000000) (w : World) (h : RBlk w b v2 v3 v4 s) :
    Calls Tryz.prog 26 #[.pointer (some ⟨b, 0, none⟩)] w fun r w' => r = .returned (.string (mkS (lineS s).1)) ∧ RBlk w' b v2 v3 v4 (lineS s).2 ∧ Below b w w' := by
  refine calls_X Tryz.func26 rfl Tryz.ntmps26 Tryz.results26 rfl rfl (by kernel_rfl) fun R hR => ?_
  simp only [push_cast, Nat.reduceBEq, Nat.reduceLeDiff, Nat.reduceAdd, h.c7]
  refine law_loop [(2, 2), (4, 4), (9, 36)] (fun n h' w' => ∃ k : Nat, k ≤ s.r.length ∧ n = s.r.length - k ∧ h' 4 = .int .i64 k ∧ cutLine s.r = (cutLine (s.r.drop k)).map (fun p => (s.r.take k ++ p.1, p.2)) ∧ w = w') s.r.length ⟨0, by omega, by omega, rfl, by cases hc : cutLine s.r <;> simp [hc], rfl⟩ ?_
  rintro n h' w' ⟨k, hk, hn, h4, hcl, rfl⟩ T hT
  simp only [push_cast, Nat.reduceBEq, Nat.reduceLeDiff, Nat.reduceAdd, h4, size_mkS]
  rw [w64 (n := (k : Int) + 1) (by omega) (by omega)]
  refine ⟨fun hc => ?_, fun hc => ?_⟩
  · simp only [decide_eq_true_eq] at hc
    have hk1 : k + 1 < s.r.length := by omega
    have h0 : bt (mkS s.r) k = ((s.r[k]'(by omega)).toNat : Int) := by
      have := bt_get (mkS s.r) k (by rw [toL_mkS]; omega)
      simp only [toL_mkS] at this; exact this
    have h1 : bt (mkS s.r) ((k : Int) + 1) = ((s.r[k + 1]).toNat : Int) := by
      have := bt_get (mkS s.r) (k + 1) (by rw [toL_mkS]; omega)
      simp only [toL_mkS] at this; exact this
    have hd := List.drop_eq_getElem_cons (l := s.r) (i := k) (by omega)
    have hd1 := List.drop_eq_getElem_cons hk1
    have htk : s.r.take (k + 1) = s.r.take k ++ [s.r[k]'(by omega)] := List.take_succ_eq_append_getElem (by omega)
    rw [h0, h1]
    generalize s.r[k]'(by omega) = x at hd htk
    generalize s.r[k + 1] = y at hd1
    have e13 : ((x.toNat : Int) = 13) ↔ x = 13 := u8_eq x 13
    have e10 : ((y.toNat : Int) = 10) ↔ y = 10 := u8_eq y 10
    have hcut : cutLine (s.r.drop k) = if x = 13 ∧ y = 10 then some ([], s.r.drop (k + 2)) else (cutLine (s.r.drop (k + 1))).map fun p => (x :: p.1, p.2) := by
      rw [hd, cutLine, hd1]
      simp only [List.head?_cons, Option.some.injEq, List.tail_cons]
    refine ⟨by omega, fun _ => by omega, fun hm => ?_, fun hm => ?_⟩
    · simp only [Bool.and_eq_true, decide_eq_true_eq, e13, e10] at hm
      rw [hcut, if_pos hm] at hcl
      have hl : lineS s = (s.r.take k, { s with r := s.r.drop (k + 2) }) := by
        unfold lineS; rw [hcl]; simp
      rw [w64 (n := (k : Int) + 2) (by omega) (by omega), show ((k : Int) + 2).toNat = k + 2 from by omega, h.c7, h.f]
      refine ⟨by omega, rfl, rfl, by omega, hR _ _ ⟨?_, ?_, (Below.refl _ _).setCell (p := ⟨b, 7, none⟩) (Nat.le_refl _) _⟩⟩
      · rw [hl, ← mkS_toL ((mkS s.r).extract 0 k), toL_extract, toL_mkS, List.drop_zero]
      · rw [hl, ← mkS_toL ((mkS s.r).extract (k + 2) s.r.length), toL_extract, toL_mkS, List.take_length]
        exact h.set7 _
    · have hm' : ¬ (x = 13 ∧ y = 10) := by
        rintro ⟨rfl, rfl⟩; simp at hm
      rw [hcut, if_neg hm'] at hcl
      refine hT (s.r.length - (k + 1)) _ _ (by simp only [push_cast, Nat.reduceBEq, Nat.reduceLeDiff]) (by omega) ⟨k + 1, by omega, rfl, ?_, ?_, rfl⟩
      · simp only [push_cast, Nat.reduceBEq, Nat.reduceLeDiff]
      · rw [hcl, htk]; cases cutLine (s.r.drop (k + 1)) <;> simp
  · simp only [decide_eq_false_iff_not] at hc
    have hnone : cutLine (s.r.drop k) = none := by
      rcases hd : s.r.drop k with _ | ⟨x, _ | ⟨y, t⟩⟩
      · rfl
      · simp [cutLine]
      · have := congrArg List.length hd; simp at this; omega
    rw [hnone] at hcl
    have hl : lineS s = ([], failS 31 s) := by unfold lineS; rw [hcl]; rfl
    refine (rfail b v2 v3 v4 s 31 w h).mono ?_
    rintro e w2 ⟨rfl, hR2, hb2⟩
    simp only [push_cast, Nat.reduceBEq, Nat.reduceLeDiff, Nat.reduceAdd]
    exact hR _ _ ⟨by rw [hl]; rfl, by rw [hl]; exact hR2, hb2⟩
end Go.Proofs.YtciepffocobgpaaGreatDoor
namespace Go.Proofs.YtciepffocobgpaaGreatDoor
open Go Go.Sx Go.RowKit
set_option linter.unusedSimpArgs false
set_option linter.unusedVariables false
theorem rshown (s : ByteArray) (hs : s.size ≤ 1000000000) (w : World) :
    Calls Tryz.prog 32 #[.string s] w fun r w' => r = .returned (.bool (shownB (toL s))) ∧ w = w' := by
  refine calls_X Tryz.func32 rfl Tryz.ntmps32 Tryz.results32 rfl rfl (by kernel_rfl) fun R hR => ?_
  simp only [push_cast, Nat.reduceBEq, Nat.reduceLeDiff, Nat.reduceAdd]
  refine law_loop [(2, 19)] (fun n h w' => ∃ k : Nat, k ≤ s.size ∧ n = s.size - k ∧ h 3 = .int .i64 k ∧ shownB ((toL s).take k) = true ∧ w = w') s.size ⟨0, by omega, by omega, rfl, rfl, rfl⟩ ?_
  rintro n h w' ⟨k, hk, hn, h3, hall, rfl⟩ T hT
  simp only [push_cast, Nat.reduceBEq, Nat.reduceLeDiff, Nat.reduceAdd, h3]
  refine ⟨fun hc => ?_, fun hc => ?_⟩
  · simp only [decide_eq_true_eq, Int.ofNat_lt] at hc
    obtain ⟨c, hc1, hc2, hc3⟩ := take_bt s k hc
    rw [hc3]
    refine ⟨by omega, fun _ => by omega, fun hb => hR _ _ ⟨?_, rfl⟩, fun hb => hT (s.size - (k + 1)) _ _ (by simp only [push_cast, Nat.reduceBEq, Nat.reduceLeDiff]) (by omega) ⟨k + 1, by omega, rfl, ?_, ?_, rfl⟩⟩
    · have : shownB (toL s) = false := by
        unfold shownB
        rw [List.all_eq_false]
        refine ⟨c, List.mem_of_getElem? hc1, ?_⟩
        simp at hb ⊢; omega
      rw [this]
    · simp only [push_cast, Nat.reduceBEq, Nat.reduceLeDiff]; rw [w64 (by omega) (by omega)]
    · rw [hc2]; unfold shownB at hall ⊢; rw [List.all_append, hall]
      simp at hb ⊢; omega
  · simp only [decide_eq_false_iff_not, Int.ofNat_lt, Nat.not_lt] at hc
    rw [take_all s k hc] at hall
    exact hR _ _ ⟨by rw [hall], rfl⟩
/-- The place of a name; -1: there is none. -/
def hasI : List Bytes → Bytes → Nat → Int
  | [], _, _ => -1
  | x :: r, n, i => if x = n then i else hasI r n (i + 1)
theorem rhas (b : Nat) (v2 v3 v4 : Value) (s : RS) (n : ByteArray) (hl : s.ns.length ≤ 1000000000) (w : World) (h : RBlk w b v2 v3 v4 s) :
    Calls Tryz.prog 57 #[.pointer (some ⟨b, 0, none⟩), .string n] w fun r w' => r = .returned (.int .i64 (hasI s.ns (toL n) 0)) ∧ w = w' := by
  obtain ⟨A, c, rfl, hcells⟩ := strsAt_shape (strs_of_own h.n)
  refine calls_X Tryz.func57 rfl Tryz.ntmps57 Tryz.results57 rfl rfl (by kernel_rfl) fun R hR => ?_
  simp only [push_cast, Nat.reduceBEq, Nat.reduceLeDiff, Nat.reduceAdd]
  refine law_loop [(4, 24)] (fun m h' w' => ∃ k : Nat, k ≤ s.ns.length ∧ m = s.ns.length - k ∧ h' 5 = .int .i64 k ∧ hasI s.ns (toL n) 0 = hasI (s.ns.drop k) (toL n) k ∧ w = w') s.ns.length ⟨0, by omega, by omega, rfl, rfl, rfl⟩ ?_
  rintro m h' w' ⟨k, hk, hm, h5, hh, rfl⟩ T hT
  simp only [push_cast, Nat.reduceBEq, Nat.reduceLeDiff, Nat.reduceAdd, h5, h.c3]
  refine ⟨fun hc => ?_, fun hc => ?_⟩
  · simp only [decide_eq_true_eq, Int.ofNat_lt] at hc
    have hx : s.ns[k]? = some s.ns[k] := List.getElem?_eq_getElem hc
    have hd := List.drop_eq_getElem_cons hc
    generalize s.ns[k] = x at hx hd
    obtain ⟨g, o, rfl, hg, c0⟩ := hcells k x hx
    simp only [push_cast, Nat.reduceBEq, Nat.reduceLeDiff, Nat.reduceAdd, h5, h.c3, c0, Nat.mul_one, mkS_eq]
    rw [hd, hasI] at hh
    refine ⟨by omega, fun he => hR _ _ ⟨?_, rfl⟩, fun he => hT (s.ns.length - (k + 1)) _ _ (by simp only [push_cast, Nat.reduceBEq, Nat.reduceLeDiff]) (by omega) ⟨k + 1, by omega, rfl, ?_, ?_, rfl⟩⟩
    · simp only [decide_eq_true_eq] at he
      rw [hh, if_pos he]
    · simp only [push_cast, Nat.reduceBEq, Nat.reduceLeDiff]; rw [w64 (by omega) (by omega)]
    · simp only [decide_eq_false_iff_not] at he
      rw [hh, if_neg he]
  · simp only [decide_eq_false_iff_not, Int.ofNat_lt, Nat.not_lt] at hc
    exact hR _ _ ⟨by rw [hh, List.drop_eq_nil_of_le hc]; rfl, rfl⟩
end Go.Proofs.YtciepffocobgpaaGreatDoor
namespace Go.Proofs.YtciepffocobgpaaGreatDoor
open Go Go.Sx Go.RowKit
set_option linter.unusedSimpArgs false
set_option linter.unusedVariables false
theorem lower_byte (c : UInt8) : ((Lib.lowerB c).toNat : Int) = if 65 ≤ c.toNat ∧ c.toNat ≤ 90 then (c.toNat : Int) + 32 else c.toNat := by
  have := byte_all (fun c => ((Lib.lowerB c).toNat : Int) == if 65 ≤ c.toNat ∧ c.toNat ≤ 90 then (c.toNat : Int) + 32 else c.toNat) (by kernel_rfl) c
  simpa using this
theorem conv_bytes2 (s : ByteArray) (w : World) : ∃ v w', Sem.run Tryz.prog (convert 9 22 (.string s)) w = .ok v w' ∧ ((∃ c, v = .slice (some ⟨w.heap.size, 0, none⟩) s.size c) ∧ w'.heap.size = w.heap.size + 1 ∧ (∀ j x, (toL s)[j]? = some x → w'.cell? ⟨w.heap.size, j, none⟩ = some (.int .u8 x.toNat) ∧ w'.frozen? ⟨w.heap.size, j, none⟩ = false) ∧ Below w.heap.size w w') := by
  refine ⟨_, _, Lib.run_convert_string_bytes w 9 22 5 s Tryz.underlying9 Tryz.underlying22 Tryz.underlying5, ⟨_, rfl⟩, Lib.bytesWorld_size .., fun j x hj => ?_, bytesW_below w s⟩
  have hlt := (List.getElem?_eq_some_iff.1 hj).1
  rw [toL_len] at hlt
  refine ⟨?_, ?_⟩
  · rw [Lib.bytesWorld_cell w 5 s j hlt, List.getD, show s.data.toList[j]? = some x from hj]; rfl
  · unfold World.frozen?
    rw [Lib.bytesWorld_at_new]
    have : s.size ≤ (Lib.bytesCells w 5 s).size := by
      simp only [Lib.bytesCells, Array.size_append, Array.size_map]
      exact Nat.le_add_right _ _
    simp; omega
theorem rsmall (s : ByteArray) (hs : s.size ≤ 1000000000) (w : World) :
    Calls Tryz.prog 91 #[.string s] w fun r w' => r = .returned (.string (mkS (Lib.toLowerA (toL s)))) ∧ Below w.heap.size w w' := by
  refine calls_X Tryz.func91 rfl Tryz.ntmps91 Tryz.results91 rfl rfl (by kernel_rfl) fun R hR => ?_
  simp only [push_cast, Nat.reduceBEq, Nat.reduceLeDiff, Nat.reduceAdd]
  refine getR_of (conv_bytes2 s w) ?_
  rintro v w1 ⟨⟨c, rfl⟩, hsz, hcells, hb1⟩
  simp only [push_cast, Nat.reduceBEq, Nat.reduceLeDiff, Nat.reduceAdd]
  refine law_loop [(4, 4), (7, 30)] (fun n h w' => ∃ k : Nat, k ≤ s.size ∧ n = s.size - k ∧ h 4 = .int .i64 k ∧ w'.heap.size = w.heap.size + 1 ∧ (∀ j x, (toL s)[j]? = some x → w'.cell? ⟨w.heap.size, j, none⟩ = some (.int .u8 (if j < k then Lib.lowerB x else x).toNat) ∧ w'.frozen? ⟨w.heap.size, j, none⟩ = false) ∧ Below w.heap.size w w') s.size ⟨0, by omega, by omega, rfl, hsz, by simpa using hcells, hb1⟩ ?_
  rintro n h w2 ⟨k, hk, hn, h4, hs2, hcs, hb2⟩ T hT
  simp only [push_cast, Nat.reduceBEq, Nat.reduceLeDiff, Nat.reduceAdd, h4]
  refine ⟨fun hc => ?_, fun hc => ?_⟩
  · simp only [decide_eq_true_eq, Int.ofNat_lt] at hc
    obtain ⟨x, hx1, hx2, hx3⟩ := take_bt s k hc
    obtain ⟨c0, f0⟩ := hcs k x hx1
    rw [if_neg (Nat.lt_irrefl k)] at c0
    simp only [push_cast, Nat.reduceBEq, Nat.reduceLeDiff, Nat.reduceAdd, h4, Nat.mul_one, c0, f0]
    have hlow := lower_byte x
    refine ⟨by omega, fun _ => by omega, fun hb => ⟨by omega, by omega, hT (s.size - (k + 1)) _ _ (by simp only [push_cast, Nat.reduceBEq, Nat.reduceLeDiff]) (by omega) ⟨k + 1, by omega, rfl, ?_, by rw [sc_size]; exact hs2, fun j y hj => ⟨?_, ?_⟩, hb2.setCell (p := ⟨w.heap.size, k, none⟩) (Nat.le_refl _) _⟩⟩, fun hb => hT (s.size - (k + 1)) _ _ (by simp only [push_cast, Nat.reduceBEq, Nat.reduceLeDiff]) (by omega) ⟨k + 1, by omega, rfl, ?_, hs2, fun j y hj => ⟨?_, (hcs j y hj).2⟩, hb2⟩⟩
    · simp only [push_cast, Nat.reduceBEq, Nat.reduceLeDiff]; rw [w64 (by omega) (by omega)]
    · simp only [Bool.and_eq_true, decide_eq_true_eq] at hb
      rw [if_pos (by omega)] at hlow
      rw [sc_cell]
      by_cases hkj : k = j
      · subst hkj
        rw [hx1] at hj; cases hj
        rw [beq_self_eq_true, c0, scv_t, if_pos (Nat.lt_succ_self _), hlow, show IntKind.u8.wrap ((x.toNat : Int) + 32) = (x.toNat : Int) + 32 from IntWalk.u8_in _ ⟨by omega, by omega⟩]
      · rw [show (k == j) = false from by simpa using hkj, scv_f, (hcs j y hj).1]
        by_cases hjk : j < k
        · rw [if_pos hjk, if_pos (by omega)]
        · rw [if_neg hjk, if_neg (by omega)]
    · rw [sc_frz]; exact (hcs j y hj).2
    · simp only [push_cast, Nat.reduceBEq, Nat.reduceLeDiff]; rw [w64 (by omega) (by omega)]
    · rw [(hcs j y hj).1]
      by_cases hkj : k = j
      · subst hkj
        rw [hx1] at hj; cases hj
        simp only [Bool.and_eq_false_iff, decide_eq_false_iff_not] at hb
        rw [if_neg (by omega)] at hlow
        rw [if_neg (Nat.lt_irrefl k), if_pos (Nat.lt_succ_self _), hlow]
      · by_cases hjk : j < k
        · rw [if_pos hjk, if_pos (by omega)]
        · rw [if_neg hjk, if_neg (by omega)]
  · simp only [decide_eq_false_iff_not, Int.ofNat_lt, Nat.not_lt] at hc
    have hk0 : k = s.size := by omega
    have hB : BytesAt w2 (.slice (some ⟨w.heap.size, 0, none⟩) s.size c) (Lib.toLowerA (toL s)) := by
      refine .inr ⟨w.heap.size, 0, c, by simp [Lib.toLowerA, toL_len], by omega, fun j x hj => ?_⟩
      unfold Lib.toLowerA at hj
      rw [List.getElem?_map] at hj
      obtain ⟨y, hy, rfl⟩ := Option.map_eq_some_iff.1 hj
      have hlt := (List.getElem?_eq_some_iff.1 hy).1
      rw [toL_len] at hlt
      rw [Nat.zero_add, (hcs j y hy).1, if_pos (by omega)]
    simp only [push_cast, conv_back hB]
    exact hR _ _ ⟨rfl, hb2⟩
end Go.Proofs.YtciepffocobgpaaGreatDoor
namespace Go.Proofs.YtciepffocobgpaaGreatDoor
open Go Go.Sx Go.RowKit
set_option linter.unusedSimpArgs false
set_option linter.unusedVariables false
theorem g_mul (P : Program) (w : World) (c : Cont) (t : TypeId) (g : Bool) (q : IntKind) (m n : Int) : ap P (.bin .mul t g) [.int q m, .int q n] w c = c.K (.int q (q.wrap (m * n))) w := by
  simp [ap, a2, apBin]
attribute [push_cast] g_mul
def isD (c : UInt8) : Bool := decide (48 ≤ c.toNat) && decide (c.toNat ≤ 57)
/-- What the reference says of a number. -/
def rcountS (s : RS) (most : Int) : Int × RS :=
  if hasI s.ns clen 0 < 0 then (0, s) else
  match s.vs[(hasI s.ns clen 0).toNat]? with
  | none => (0, s)
  | some v =>
    if (v.take 7).all isD = true then
      let s1 := if v.length < 1 ∨ 6 < v.length ∨ (v.head? = some 48 ∧ 1 < v.length) then failS 31 s else s
      ((decN (v.take 7) : Int), if most < (decN (v.take 7) : Int) then failS 11 s1 else s1)
    else (0, failS 31 s)
theorem hasI_bounds : ∀ (l : List Bytes) (n : Bytes) (i : Nat), hasI l n i = -1 ∨ (i ≤ hasI l n i ∧ hasI l n i < i + l.length)
  | [], _, _ => .inl rfl
  | x :: r, n, i => by
    rw [hasI]
    by_cases h : x = n
    · rw [if_pos h]; refine .inr ⟨by omega, ?_⟩; simp; omega
    · rw [if_neg h]
      rcases hasI_bounds r n (i + 1) with h1 | ⟨h1, h2⟩
      · exact .inl h1
      · refine .inr ⟨by omega, ?_⟩; simp only [List.length_cons]; omega
theorem rcount (b : Nat) (v2 v3 v4 : Value) (s : RS) (most : Int) (hl : s.ns.length ≤ 1000000) (hlv : s.vs.length = s.ns.length) (hsz : ∀ v ∈ s.vs, v.length ≤ 1000000) (w : World) (h : RBlk w b v2 v3 v4 s) :
    Calls Tryz.prog 58 #[.pointer (some ⟨b, 0, none⟩), .int .i64 most] w fun r w' => r = .returned (.int .i64 (rcountS s most).1) ∧ RBlk w' b v2 v3 v4 (rcountS s most).2 ∧ Below b w w' := by
  refine calls_X Tryz.func58 rfl Tryz.ntmps58 Tryz.results58 rfl rfl (by kernel_rfl) fun R hR => ?_
  simp only [push_cast, Nat.reduceBEq, Nat.reduceLeDiff, Nat.reduceAdd]
  refine (rhas b v2 v3 v4 s (mkS clen) (by omega) w h).mono ?_
  rintro e w' ⟨rfl, rfl⟩
  rw [toL_mkS]
  simp only [push_cast, Nat.reduceBEq, Nat.reduceLeDiff, Nat.reduceAdd, h.c4]
  have hbd := hasI_bounds s.ns clen 0
  unfold rcountS at hR
  generalize hasI s.ns clen 0 = i at hbd hR
  refine ⟨fun h0 => hR _ _ ?_, fun h0 => ?_⟩
  · simp only [decide_eq_true_eq] at h0
    rw [if_pos h0]; exact ⟨rfl, h, Below.refl _ _⟩
  simp only [decide_eq_false_iff_not] at h0
  rw [if_neg h0] at hR
  obtain ⟨k, rfl⟩ : ∃ k : Nat, i = k := ⟨i.toNat, by omega⟩
  have hk : k < s.vs.length := by omega
  have hx : s.vs[k]? = some s.vs[k] := List.getElem?_eq_getElem hk
  have hm := hsz _ (List.getElem_mem hk)
  generalize s.vs[k] = v at hx hm
  obtain ⟨A, cc, rfl, hcells⟩ := strsAt_shape (strs_of_own h.v)
  obtain ⟨g, o, rfl, hg, c0⟩ := hcells k v hx
  simp only [Int.toNat_natCast, hx] at hR
  simp only [push_cast, Nat.reduceBEq, Nat.reduceLeDiff, Nat.reduceAdd, Nat.mul_one, c0]
  refine ⟨by omega, ?_⟩
  refine law_loop [(4, 4), (7, 8), (20, 49)] (fun n h' w' => ∃ k2 : Nat, k2 ≤ v.length ∧ k2 ≤ 7 ∧ n = 7 - k2 ∧ h' 8 = .int .i64 k2 ∧ h' 7 = .int .i64 (decN (v.take k2)) ∧ (v.take k2).all isD = true ∧ decN (v.take k2) < 10 ^ k2 ∧ w = w') 7 ⟨0, by omega, by omega, by omega, rfl, rfl, rfl, Nat.zero_lt_one, rfl⟩ ?_
  rintro n h' w' ⟨k2, hk1, hk7, hn, h8, h7, hall, hlt, rfl⟩ T hT
  simp only [push_cast, Nat.reduceBEq, Nat.reduceLeDiff, Nat.reduceAdd, h8, h7, size_mkS]
  have hp7 : 10 ^ k2 ≤ 10 ^ 7 := Nat.pow_le_pow_right (by decide) hk7
  refine ⟨fun hc => ?_, fun hc => ?_⟩
  · simp only [Bool.and_eq_true, decide_eq_true_eq] at hc
    have hk3 : k2 < v.length := by omega
    have hb : bt (mkS v) k2 = ((v[k2]).toNat : Int) := by
      have := bt_get (mkS v) k2 (by rw [toL_mkS]; omega)
      simp only [toL_mkS] at this; exact this
    have htk : v.take (k2 + 1) = v.take k2 ++ [v[k2]] := List.take_succ_eq_append_getElem hk3
    have hd := List.drop_eq_getElem_cons hk3
    rw [hb]
    generalize v[k2] = x at htk hd
    have h256 := x.toNat_lt
    have hsnoc : decN (v.take (k2 + 1)) = decN (v.take k2) * 10 + (x.toNat - 48) := by rw [htk, decN, List.foldl_append]; rfl
    have hbad : isD x = false → (v.take 7).all isD = false := by
      intro hx
      rw [List.all_eq_false]
      refine ⟨x, ?_, by rw [hx]; decide⟩
      have : x ∈ v.take (k2 + 1) := by rw [htk]; simp
      exact (List.take_sublist_take_left (by omega)).subset this
    refine ⟨by omega, fun _ => by omega, fun hb2 => ?_, fun hb2 => ?_⟩
    · refine (rfail b v2 v3 _ s 31 w h).mono ?_
      rintro e w2 ⟨rfl, hR2, hbw⟩
      simp only [push_cast, Nat.reduceBEq, Nat.reduceLeDiff, Nat.reduceAdd]
      have hx : isD x = false := by
        simp only [Bool.or_eq_true, decide_eq_true_eq] at hb2
        unfold isD
        rw [Bool.and_eq_false_iff, decide_eq_false_iff_not, decide_eq_false_iff_not]; omega
      exact hR _ _ (by rw [if_neg (by rw [hbad hx]; decide)]; exact ⟨rfl, hR2, hbw⟩)
    · simp only [Bool.or_eq_false_iff, decide_eq_false_iff_not] at hb2
      have hx : isD x = true := by
        unfold isD
        rw [Bool.and_eq_true, decide_eq_true_eq, decide_eq_true_eq]; omega
      have hpw : 10 ^ (k2 + 1) = 10 ^ k2 * 10 := Nat.pow_succ ..
      have hw1 : IntKind.u8.wrap ((x.toNat : Int) - 48) = (x.toNat : Int) - 48 := IntWalk.u8_in _ ⟨by omega, by omega⟩
      refine ⟨by omega, ?_⟩
      refine hT (7 - (k2 + 1)) _ _ (by simp only [push_cast, Nat.reduceBEq, Nat.reduceLeDiff]) (by omega) ⟨k2 + 1, by omega, by omega, rfl, ?_, ?_, ?_, ?_, rfl⟩
      · simp only [push_cast, Nat.reduceBEq, Nat.reduceLeDiff]; rw [w64 (by omega) (by omega)]
      · simp only [push_cast, Nat.reduceBEq, Nat.reduceLeDiff, hw1]
        rw [w64 (n := (x.toNat : Int) - 48) (by omega) (by omega), w64 (n := 10 * (decN (v.take k2) : Int)) (by omega) (by omega), w64 (by omega) (by omega), hsnoc]
        congr 1; omega
      · rw [htk, List.all_append, hall]; simp [hx]
      · rw [hsnoc]
        omega
  · have hk2 : v.take k2 = v.take 7 := by
      simp only [Bool.and_eq_false_iff, decide_eq_false_iff_not] at hc
      rcases hc with hc | hc
      · rw [List.take_of_length_le (by omega), List.take_of_length_le (by omega)]
      · rw [show k2 = 7 from by omega]
    rw [hk2] at h7 hall hlt ⊢
    rw [if_pos hall] at hR
    have hcond : ((decide ((v.length : Int) < 1) || decide (6 < (v.length : Int))) || (decide (bt (mkS v) 0 = 48) && decide (1 < (v.length : Int)))) = decide (v.length < 1 ∨ 6 < v.length ∨ (v.head? = some 48 ∧ 1 < v.length)) := by
      rw [Bool.eq_iff_iff]
      simp only [Bool.or_eq_true, Bool.and_eq_true, decide_eq_true_eq]
      rcases v with _ | ⟨x, t⟩
      · simp
      · have : bt (mkS (x :: t)) 0 = (x.toNat : Int) := by
          have := bt_get (mkS (x :: t)) 0 (by rw [toL_mkS]; simp)
          simp only [toL_mkS] at this; exact this
        rw [this, show (48 : Int) = ((48 : UInt8).toNat : Int) from rfl, u8_eq]
        simp only [List.head?_cons, Option.some.injEq]
        by_cases hx : x = 48
        · simp only [hx, true_and]; omega
        · simp only [hx, false_and, or_false]; omega
    rw [hcond]
    refine ⟨fun hh => ?_, fun hb2 => ?_, fun hb2 => ?_⟩
    · simp only [Bool.not_eq_true', Bool.or_eq_false_iff, decide_eq_false_iff_not] at hh; omega
    · simp only [decide_eq_true_eq] at hb2
      refine (rfail b v2 v3 _ s 31 w h).mono ?_
      rintro e w2 ⟨rfl, hR2, hbw⟩
      simp only [push_cast, Nat.reduceBEq, Nat.reduceLeDiff, Nat.reduceAdd, h7]
      refine ⟨fun hm2 => ?_, fun hm2 => ?_⟩
      · simp only [decide_eq_true_eq] at hm2
        refine (rfail b v2 v3 _ _ 11 w2 hR2).mono ?_
        rintro e w3 ⟨rfl, hR3, hbw3⟩
        simp only [push_cast, Nat.reduceBEq, Nat.reduceLeDiff, Nat.reduceAdd, h7]
        exact hR _ _ (by simp only [if_pos hb2, if_pos hm2]; exact ⟨trivial, hR3, hbw.trans hbw3⟩)
      · simp only [decide_eq_false_iff_not] at hm2
        exact hR _ _ (by simp only [if_pos hb2, if_neg hm2]; exact ⟨trivial, hR2, hbw⟩)
    · simp only [decide_eq_false_iff_not] at hb2
      refine ⟨fun hm2 => ?_, fun hm2 => ?_⟩
      · simp only [decide_eq_true_eq] at hm2
        refine (rfail b v2 v3 _ _ 11 w h).mono ?_
        rintro e w3 ⟨rfl, hR3, hbw3⟩
        simp only [push_cast, Nat.reduceBEq, Nat.reduceLeDiff, Nat.reduceAdd, h7]
        exact hR _ _ (by simp only [if_neg hb2, if_pos hm2]; exact ⟨trivial, hR3, hbw3⟩)
      · simp only [decide_eq_false_iff_not] at hm2
        exact hR _ _ (by simp only [if_neg hb2, if_neg hm2]; exact ⟨trivial, h, Below.refl _ _⟩)
end Go.Proofs.YtciepffocobgpaaGreatDoor
namespace Go.Proofs.YtciepffocobgpaaGreatDoor
open Go Go.Sx Go.RowKit
set_option linter.unusedSimpArgs false
set_option linter.unusedVariables false
theorem ob_ne {v u : Value} {n : Nat} {w : World} {B size : Nat} {T : TypeId} {xs : List Value} (h : w.ownsRow B T size u n xs) : u.ownBlock = none ∨ some w.heap.size ≠ u.ownBlock := by
  cases hu : u.ownBlock with
  | none => exact .inl rfl
  | some k => exact .inr fun e => by have := (h.lt k hu).2; cases e; omega
theorem ob_pairs {w : World} {v : Value} {ps : List Pr} (h : PairsAt w v ps) : v.ownBlock = none ∨ some w.heap.size ≠ v.ownBlock := by
  rcases h with ⟨c, rfl, _⟩ | ⟨b, o, c, rfl, h2, _⟩
  · exact .inl rfl
  · exact .inr fun e => by simp [Value.ownBlock] at e; omega
/-- Both rows are appended to, one behind the other. -/
theorem rblk_app3 {w : World} {b : Nat} {v2 v3 v4 : Value} {s : RS} (h : RBlk w b v2 v3 v4 s) (x : Bytes) (hl : s.ns.length ≤ 1000000) :
    ∃ v' w', Sem.run Tryz.prog (Builtin.append_ #[34, 34] 34 #[v3, .slice (some ⟨w.heap.size, 0, none⟩) 1 1]) (al w [([.string (mkS x)], 9)]) = .ok v' w' ∧
      ((∃ A c, v' = .slice A (s.ns.length + 1) c) ∧ w'.cell? ⟨b, 3, none⟩ = some v3 ∧ w'.frozen? ⟨b, 3, none⟩ = false ∧ RBlk (w'.setCell ⟨b, 3, none⟩ v') b v2 v' v4 { s with ns := s.ns ++ [x] } ∧ Below b w (w'.setCell ⟨b, 3, none⟩ v')) := by
  obtain ⟨i0, hi, hz0, hz1, hz2⟩ := info_parts info9
  have h1 := h.step (al_below w [([.string (mkS x)], 9)])
  have hlt := h.lt
  have hnews : ∀ (j : Nat) (u : Value), [Value.string (mkS x)][j]? = some u → (al w [([.string (mkS x)], 9)]).cell? ((⟨w.heap.size, 0, none⟩ : Addr).add j) = some u := by
    intro j u hj
    rcases j with _ | j
    · simp at hj; subst hj; exact al_cell0 ..
    · simp at hj
  have hbw := al_below w [([.string (mkS x)], 9)]
  have hsz : (al w [([.string (mkS x)], 9)]).heap.size = w.heap.size + 1 := by rw [al_size]; rfl
  generalize al w [([.string (mkS x)], 9)] = w1 at h1 hnews hbw hsz
  obtain ⟨v', w', hr, hown, hg, _, hat⟩ := run_append_own_at (P := Tryz.prog) w1 (b + 1) 34 34 9 i0 (.string ⟨#[]⟩) 1 16 Tryz.underlying34 hi hz0 hz1 hz2 rfl (by decide) v3 s.ns.length (strCs s.ns) h1.n ⟨w.heap.size, 0, none⟩ 1 1 [.string (mkS x)] rfl hnews (by simp; rfl) (by unfold maxLen; omega) (by omega) (by omega)
  refine ⟨v', w', hr, ?_⟩
  have hrow : ∀ k, v3.ownBlock = some k → b + 1 ≤ k := fun k hk => (h1.n.lt k hk).1
  have hbk : w'.heap[b]? = w1.heap[b]? := hg.block b h1.lt (fun e => by have := hrow b e.symm; omega)
  have hc : ∀ i, w'.cell? ⟨b, i, none⟩ = w1.cell? ⟨b, i, none⟩ := fun i => World.cell?_of_block hbk
  have hf : ∀ i, w'.frozen? ⟨b, i, none⟩ = false := fun i => (World.frozen?_of_block hbk).trans (h1.f i)
  have hown' : w'.ownsRow (b + 1) 9 1 v' (s.ns ++ [x]).length (strCs (s.ns ++ [x])) := by
    rw [show strCs (s.ns ++ [x]) = strCs s.ns ++ [.string (mkS x)] from by simp [strCs], show (s.ns ++ [x]).length = s.ns.length + 1 from by simp]; exact hown
  have hg4 : v4.ownBlock = none ∨ v3.ownBlock ≠ v4.ownBlock := by
    rcases h1.ne with h0 | h0
    · rw [h0]
      cases v4.ownBlock with
      | none => exact .inl rfl
      | some k => exact .inr (by simp)
    · exact .inr h0
  have hg2 : v2.ownBlock = none ∨ v3.ownBlock ≠ v2.ownBlock := by
    rcases h1.n2 with h0 | ⟨h0, _⟩
    · exact .inl h0
    · exact .inr fun e => h0 e.symm
  refine ⟨?_, by rw [hc 3]; exact h1.c3, hf 3, ?_, ?_⟩
  · rcases hown.2 with ⟨_, h0⟩ | ⟨g, cap, cur, rfl, _⟩
    · omega
    · exact ⟨_, _, rfl⟩
  · refine ⟨by rw [sc_cell, hc]; exact h1.c0, by rw [sc_cell, hc]; exact h1.c1, by rw [sc_cell, hc]; exact h1.c2, by rw [sc_cell, hc, h1.c3]; rfl, by rw [sc_cell, hc]; exact h1.c4, by rw [sc_cell, hc]; exact h1.c5, by rw [sc_cell, hc]; exact h1.c6, by rw [sc_cell, hc]; exact h1.c7, fun i => by rw [sc_frz]; exact hf i, by rw [sc_size]; exact Nat.lt_of_lt_of_le h1.lt hg.size, pairsAt_set (pairsAt_grown h1.q hg hg2) h.qf (Nat.lt_succ_self _), h.qf, own_set hown' (Nat.lt_succ_self _), own_set (own_grown h1.v hg hg4) (Nat.lt_succ_self _), ?_, ?_⟩
    · rcases hat with e | e
      · rw [e]; exact h.ne
      · rw [e]
        rcases ob_ne (v := v') h1.v with h0 | h0
        · right; rw [h0]; simp
        · exact .inr h0
    · rcases h.n2 with h0 | ⟨h2, h3⟩
      · exact .inl h0
      · refine .inr ⟨?_, h3⟩
        rcases hat with e | e
        · rw [e]; exact h2
        · rw [e]
          rcases ob_pairs h1.q with h0 | h0
          · rw [h0]; simp
          · exact fun e => h0 e.symm
  · have hbb : Below b w w' := Below.grown (hbw.mono (by omega)) hg (by omega) fun k hk => by have := hrow k hk; omega
    exact hbb.setCell (p := ⟨b, 3, none⟩) (Nat.le_refl _) _
theorem rblk_app4 {w : World} {b : Nat} {v2 v3 v4 : Value} {s : RS} (h : RBlk w b v2 v3 v4 s) (x : Bytes) (hl : s.vs.length ≤ 1000000) :
    ∃ v' w', Sem.run Tryz.prog (Builtin.append_ #[34, 34] 34 #[v4, .slice (some ⟨w.heap.size, 0, none⟩) 1 1]) (al w [([.string (mkS x)], 9)]) = .ok v' w' ∧
      ((∃ A c, v' = .slice A (s.vs.length + 1) c) ∧ w'.cell? ⟨b, 4, none⟩ = some v4 ∧ w'.frozen? ⟨b, 4, none⟩ = false ∧ RBlk (w'.setCell ⟨b, 4, none⟩ v') b v2 v3 v' { s with vs := s.vs ++ [x] } ∧ Below b w (w'.setCell ⟨b, 4, none⟩ v')) := by
  obtain ⟨i0, hi, hz0, hz1, hz2⟩ := info_parts info9
  have h1 := h.step (al_below w [([.string (mkS x)], 9)])
  have hlt := h.lt
  have hnews : ∀ (j : Nat) (u : Value), [Value.string (mkS x)][j]? = some u → (al w [([.string (mkS x)], 9)]).cell? ((⟨w.heap.size, 0, none⟩ : Addr).add j) = some u := by
    intro j u hj
    rcases j with _ | j
    · simp at hj; subst hj; exact al_cell0 ..
    · simp at hj
  have hbw := al_below w [([.string (mkS x)], 9)]
  have hsz : (al w [([.string (mkS x)], 9)]).heap.size = w.heap.size + 1 := by rw [al_size]; rfl
  generalize al w [([.string (mkS x)], 9)] = w1 at h1 hnews hbw hsz
  obtain ⟨v', w', hr, hown, hg, _, hat⟩ := run_append_own_at (P := Tryz.prog) w1 (b + 1) 34 34 9 i0 (.string ⟨#[]⟩) 1 16 Tryz.underlying34 hi hz0 hz1 hz2 rfl (by decide) v4 s.vs.length (strCs s.vs) h1.v ⟨w.heap.size, 0, none⟩ 1 1 [.string (mkS x)] rfl hnews (by simp; rfl) (by unfold maxLen; omega) (by omega) (by omega)
  refine ⟨v', w', hr, ?_⟩
  have hrow : ∀ k, v4.ownBlock = some k → b + 1 ≤ k := fun k hk => (h1.v.lt k hk).1
  have hbk : w'.heap[b]? = w1.heap[b]? := hg.block b h1.lt (fun e => by have := hrow b e.symm; omega)
  have hc : ∀ i, w'.cell? ⟨b, i, none⟩ = w1.cell? ⟨b, i, none⟩ := fun i => World.cell?_of_block hbk
  have hf : ∀ i, w'.frozen? ⟨b, i, none⟩ = false := fun i => (World.frozen?_of_block hbk).trans (h1.f i)
  have hown' : w'.ownsRow (b + 1) 9 1 v' (s.vs ++ [x]).length (strCs (s.vs ++ [x])) := by
    rw [show strCs (s.vs ++ [x]) = strCs s.vs ++ [.string (mkS x)] from by simp [strCs], show (s.vs ++ [x]).length = s.vs.length + 1 from by simp]; exact hown
  have hg3 : v3.ownBlock = none ∨ v4.ownBlock ≠ v3.ownBlock := by
    rcases h1.ne with h0 | h0
    · exact .inl h0
    · exact .inr fun e => h0 e.symm
  have hg2 : v2.ownBlock = none ∨ v4.ownBlock ≠ v2.ownBlock := by
    rcases h1.n2 with h0 | ⟨_, h0⟩
    · exact .inl h0
    · exact .inr fun e => h0 e.symm
  refine ⟨?_, by rw [hc 4]; exact h1.c4, hf 4, ?_, ?_⟩
  · rcases hown.2 with ⟨_, h0⟩ | ⟨g, cap, cur, rfl, _⟩
    · omega
    · exact ⟨_, _, rfl⟩
  · refine ⟨by rw [sc_cell, hc]; exact h1.c0, by rw [sc_cell, hc]; exact h1.c1, by rw [sc_cell, hc]; exact h1.c2, by rw [sc_cell, hc]; exact h1.c3, by rw [sc_cell, hc, h1.c4]; rfl, by rw [sc_cell, hc]; exact h1.c5, by rw [sc_cell, hc]; exact h1.c6, by rw [sc_cell, hc]; exact h1.c7, fun i => by rw [sc_frz]; exact hf i, by rw [sc_size]; exact Nat.lt_of_lt_of_le h1.lt hg.size, pairsAt_set (pairsAt_grown h1.q hg hg2) h.qf (Nat.lt_succ_self _), h.qf, own_set (own_grown h1.n hg hg3) (Nat.lt_succ_self _), own_set hown' (Nat.lt_succ_self _), ?_, ?_⟩
    · rcases hat with e | e
      · rw [e]; exact h.ne
      · rw [e]
        rcases ob_ne (v := v') h1.n with h0 | h0
        · exact .inl h0
        · exact .inr fun e => h0 e.symm
    · rcases h.n2 with h0 | ⟨h2, h3⟩
      · exact .inl h0
      · refine .inr ⟨h2, ?_⟩
        rcases hat with e | e
        · rw [e]; exact h3
        · rw [e]
          rcases ob_pairs h1.q with h0 | h0
          · rw [h0]; simp
          · exact fun e => h0 e.symm
  · have hbb : Below b w w' := Below.grown (hbw.mono (by omega)) hg (by omega) fun k hk => by have := hrow k hk; omega
    exact hbb.setCell (p := ⟨b, 4, none⟩) (Nat.le_refl _) _
def inOk (small digit : Bool) (more : Bytes) (most : Int) (l : Bytes) : Bool := inBr small digit more l && (decide ((1 : Int) ≤ l.length) && decide ((l.length : Int) ≤ most))
/-- What the reference says of a header. -/
def rheaderS (s : RS) (l : Bytes) : RS :=
  if 32 ≤ s.ns.length then failS 14 s else
  match cut1 58 l with
  | none => failS 31 s
  | some (n, v) =>
    if inOk true true [45] 40 n = true then
      if shownB v = true then
        if 0 ≤ hasI s.ns (Lib.toLowerA n) 0 then failS 15 s
        else { s with ns := s.ns ++ [Lib.toLowerA n], vs := s.vs ++ [Lib.trimRightB (Lib.trimLeftB v 32) 32] }
      else failS 31 s
    else failS 31 s
end Go.Proofs.YtciepffocobgpaaGreatDoor
namespace Go.Proofs.YtciepffocobgpaaGreatDoor
open Go Go.Sx Go.RowKit
set_option linter.unusedSimpArgs false
set_option linter.unusedVariables false
theorem ext_take (l : Bytes) (k : Nat) : (mkS l).extract 0 k = mkS (l.take k) := by
  rw [← mkS_toL ((mkS l).extract 0 k), toL_extract, toL_mkS, List.drop_zero]
theorem ext_drop (l : Bytes) (k : Nat) : (mkS l).extract k l.length = mkS (l.drop k) := by
  rw [← mkS_toL ((mkS l).extract k l.length), toL_extract, toL_mkS, List.take_length]
theorem rin_ok (l : Bytes) (small digit : Bool) (more : Bytes) (most : Int) (w : World) (hs : l.length ≤ 1000000) (hm : more.length ≤ 1000000) :
    Calls Tryz.prog 54 #[.string (mkS l), .bool small, .bool digit, .string (mkS more), .int .i64 most] w fun e w' => e = .returned (.bool (inOk small digit more most l)) ∧ w = w' := by
  refine (in_any (mkS l) small digit (mkS more) most w (by rw [size_mkS]; omega) (by rw [size_mkS]; omega)).mono ?_
  rintro e w' ⟨rfl, rfl⟩
  rw [toL_mkS, toL_mkS, size_mkS]
  exact ⟨rfl, rfl⟩
theorem dropWhile_le (p : UInt8 → Bool) (l : Bytes) : (l.dropWhile p).length ≤ l.length := (List.dropWhile_sublist p).length_le
theorem tl_cons (r : Bytes) : Lib.trimLeftB (32 :: r) 32 = Lib.trimLeftB r 32 := by simp [Lib.trimLeftB]
theorem tl_stop (y : UInt8) (r : Bytes) (h : y ≠ 32) : Lib.trimLeftB (y :: r) 32 = y :: r := by simp [Lib.trimLeftB, h]
theorem tr_snoc (a : Bytes) : Lib.trimRightB (a ++ [32]) 32 = Lib.trimRightB a 32 := by simp [Lib.trimRightB]
theorem tr_stop (a : Bytes) (y : UInt8) (h : y ≠ 32) : Lib.trimRightB (a ++ [y]) 32 = a ++ [y] := by simp [Lib.trimRightB, h]
theorem bt_first (y : UInt8) (r : Bytes) : bt (mkS (y :: r)) 0 = (y.toNat : Int) := by
  have := bt_get (mkS (y :: r)) 0 (by rw [toL_mkS]; simp)
  simp only [toL_mkS] at this; exact this
theorem bt_last (a : Bytes) (y : UInt8) : bt (mkS (a ++ [y])) (a.length : Int) = (y.toNat : Int) := by
  have := bt_get (mkS (a ++ [y])) a.length (by rw [toL_mkS]; simp)
  simp only [toL_mkS] at this; rw [this]; simp
theorem rheader (b : Nat) (v2 v3 v4 : Value) (s : RS) (l : Bytes) (hl : s.ns.length ≤ 1000000) (hlv : s.vs.length = s.ns.length) (hs : l.length ≤ 1000000) (w : World) (h : RBlk w b v2 v3 v4 s) :
    Calls Tryz.prog 56 #[.pointer (some ⟨b, 0, none⟩), .string (mkS l)] w fun r w' => r = .returned (.tuple #[]) ∧ (∃ v3' v4', RBlk w' b v2 v3' v4' (rheaderS s l)) ∧ Below b w w' := by
  obtain ⟨A3, c3, rfl, _⟩ := strsAt_shape (strs_of_own h.n)
  obtain ⟨A4, c4, rfl, _⟩ := strsAt_shape (strs_of_own h.v)
  refine calls_X Tryz.func56 rfl Tryz.ntmps56 Tryz.results56 rfl rfl (by kernel_rfl) fun R hR => ?_
  simp only [push_cast, Nat.reduceBEq, Nat.reduceLeDiff, Nat.reduceAdd, h.c3]
  refine ⟨fun h32 => ?_, fun h32 => ?_⟩
  · simp only [decide_eq_true_eq] at h32
    refine (rfail b v2 _ _ s 14 w h).mono ?_
    rintro e w1 ⟨rfl, hR1, hb1⟩
    simp only [push_cast, Nat.reduceBEq, Nat.reduceLeDiff, Nat.reduceAdd]
    exact hR _ _ ⟨rfl, ⟨_, _, by rw [rheaderS, if_pos (by omega)]; exact hR1⟩, hb1⟩
  simp only [decide_eq_false_iff_not] at h32
  have hS : rheaderS s l = match cut1 58 l with
      | none => failS 31 s
      | some (n, v) =>
        if inOk true true [45] 40 n = true then
          if shownB v = true then
            if 0 ≤ hasI s.ns (Lib.toLowerA n) 0 then failS 15 s
            else { s with ns := s.ns ++ [Lib.toLowerA n], vs := s.vs ++ [Lib.trimRightB (Lib.trimLeftB v 32) 32] }
          else failS 31 s
        else failS 31 s := by rw [rheaderS, if_neg (by omega)] <;> rfl
  refine law_loop [(4, 4), (15, 26)] (fun n h' w' => ∃ k : Nat, k ≤ l.length ∧ n = l.length - k ∧ h' 4 = .int .i64 k ∧ cut1 58 l = (cut1 58 (l.drop k)).map (fun p => (l.take k ++ p.1, p.2)) ∧ w = w') l.length ⟨0, by omega, by omega, rfl, by rw [List.drop_zero]; cases cut1 58 l <;> simp, rfl⟩ ?_
  rintro n h' w' ⟨k, hk, hn, h4, hcl, rfl⟩ T hT
  by_cases hkl : k < l.length
  case neg =>
    have q1 : decide ((k : Int) < l.length) = false := decide_eq_false (by omega)
    have q3 : decide ((k : Int) = l.length) = true := decide_eq_true (by omega)
    simp only [push_cast, Nat.reduceBEq, Nat.reduceLeDiff, Nat.reduceAdd, h4, size_mkS, q1, q3, Bool.false_and, Bool.not_true, Bool.true_or]
    rw [List.drop_eq_nil_of_le (by omega)] at hcl
    have hcn : cut1 58 l = none := by rw [hcl]; rfl
    refine (rfail b v2 _ _ s 31 w h).mono ?_
    rintro e w1 ⟨rfl, hR1, hb1⟩
    simp only [push_cast, Nat.reduceBEq, Nat.reduceLeDiff, Nat.reduceAdd]
    exact hR _ _ ⟨rfl, ⟨_, _, by rw [hS, hcn]; exact hR1⟩, hb1⟩
  have q1 : decide ((k : Int) < l.length) = true := decide_eq_true (by omega)
  have q3 : decide ((k : Int) = l.length) = false := decide_eq_false (by omega)
  have hbk : bt (mkS l) k = ((l[k]).toNat : Int) := by
    have := bt_get (mkS l) k (by rw [toL_mkS]; omega)
    simp only [toL_mkS] at this; exact this
  have hd := List.drop_eq_getElem_cons hkl
  have htk : l.take (k + 1) = l.take k ++ [l[k]] := List.take_succ_eq_append_getElem hkl
  generalize l[k] = x at hd htk hbk
  have e58 : ((x.toNat : Int) = 58) ↔ x = 58 := u8_eq x 58
  rw [hd, cut1] at hcl
  by_cases hx : x = 58
  case neg =>
    have q2 : decide ((x.toNat : Int) ≠ 58) = true := decide_eq_true (by rw [ne_eq, e58]; exact hx)
    simp only [push_cast, Nat.reduceBEq, Nat.reduceLeDiff, Nat.reduceAdd, h4, size_mkS, q1, q2, q3, hbk, Bool.and_self]
    rw [if_neg hx] at hcl
    refine ⟨by omega, hT (l.length - (k + 1)) _ _ (by simp only [push_cast, Nat.reduceBEq, Nat.reduceLeDiff]) (by omega) ⟨k + 1, by omega, rfl, ?_, ?_, rfl⟩⟩
    · simp only [push_cast, Nat.reduceBEq, Nat.reduceLeDiff]; rw [w64 (by omega) (by omega)]
    · rw [hcl, htk]; cases cut1 58 (l.drop (k + 1)) <;> simp
  have q2 : decide ((x.toNat : Int) ≠ 58) = false := decide_eq_false (by rw [ne_eq, e58]; exact fun h => h hx)
  rw [if_pos hx] at hcl
  have hcs : cut1 58 l = some (l.take k, l.drop (k + 1)) := by rw [hcl]; simp
  rw [hcs] at hS
  simp only at hS
  simp only [push_cast, Nat.reduceBEq, Nat.reduceLeDiff, Nat.reduceAdd, h4, size_mkS, q1, q2, q3, hbk, Bool.and_false, Bool.not_false, Bool.false_or]
  rw [ext_take]
  have hnx : (mkS l).extract 0 k = mkS (l.take k) := ext_take l k
  have hnl : (l.take k).length ≤ 1000000 := by rw [List.length_take]; omega
  have hvl : (l.drop (k + 1)).length ≤ 1000000 := by rw [List.length_drop]; omega
  have hvx : (mkS l).extract ((k : Int) + 1).toNat l.length = mkS (l.drop (k + 1)) := ext_drop l (k + 1)
  have hw1 : IntKind.i64.wrap ((k : Int) + 1) = (k : Int) + 1 := w64 (by omega) (by omega)
  generalize l.take k = nm at *
  generalize l.drop (k + 1) = vv at *
  refine ⟨by omega, by omega, (rin_ok nm true true [45] 40 w hnl (by simp)).mono ?_⟩
  rintro e w1 ⟨rfl, rfl⟩
  cases hio : inOk true true [45] 40 nm with
  | false =>
    rw [hio, if_neg (by decide)] at hS
    simp only [push_cast, Nat.reduceBEq, Nat.reduceLeDiff, Nat.reduceAdd, h4, size_mkS, q3, Bool.not_false, Bool.or_true]
    refine (rfail b v2 _ _ s 31 w h).mono ?_
    rintro e w1 ⟨rfl, hR1, hb1⟩
    simp only [push_cast, Nat.reduceBEq, Nat.reduceLeDiff, Nat.reduceAdd]
    exact hR _ _ ⟨rfl, ⟨_, _, by rw [hS]; exact hR1⟩, hb1⟩
  | true =>
  rw [hio, if_pos rfl] at hS
  simp only [push_cast, Nat.reduceBEq, Nat.reduceLeDiff, Nat.reduceAdd, h4, size_mkS, q3, Bool.not_true, Bool.or_false, hw1, hvx]
  refine ⟨by omega, (rshown (mkS vv) (by rw [size_mkS]; omega) w).mono ?_⟩
  rintro e w1 ⟨rfl, rfl⟩
  rw [toL_mkS]
  cases hsh : shownB vv with
  | false =>
    rw [hsh, if_neg (by decide)] at hS
    simp only [push_cast, Nat.reduceBEq, Nat.reduceLeDiff, Nat.reduceAdd, h4, size_mkS, q3, Bool.not_false, Bool.or_true, Bool.not_true, Bool.or_false]
    refine (rfail b v2 _ _ s 31 w h).mono ?_
    rintro e w1 ⟨rfl, hR1, hb1⟩
    simp only [push_cast, Nat.reduceBEq, Nat.reduceLeDiff, Nat.reduceAdd]
    exact hR _ _ ⟨rfl, ⟨_, _, by rw [hS]; exact hR1⟩, hb1⟩
  | true =>
  rw [hsh, if_pos rfl] at hS
  simp only [push_cast, Nat.reduceBEq, Nat.reduceLeDiff, Nat.reduceAdd, h4, size_mkS, q3, Bool.not_true, Bool.or_false, hw1, hvx, hnx]
  refine ⟨by omega, (rsmall (mkS nm) (by rw [size_mkS]; omega) w).mono ?_⟩
  rintro e w1 ⟨rfl, hb1⟩
  rw [toL_mkS]
  have h1 := h.step hb1
  have hbb1 : Below b w w1 := hb1.mono (Nat.le_of_lt h.lt)
  simp only [push_cast, Nat.reduceBEq, Nat.reduceLeDiff, Nat.reduceAdd, h4, size_mkS, q3, Bool.not_true, Bool.or_false, hw1, hvx, hnx]
  refine ⟨by omega, ?_⟩
  generalize hnm : Lib.toLowerA nm = nl at hS
  refine law_loop [(6, 6), (56, 65)] (fun n h' w' => ∃ u : Bytes, u.length ≤ vv.length ∧ n = u.length ∧ h' 6 = .string (mkS u) ∧ Lib.trimLeftB vv 32 = Lib.trimLeftB u 32 ∧ w1 = w') vv.length ⟨vv, by omega, rfl, rfl, rfl, rfl⟩ ?_
  rintro n2 h2 w2 ⟨u, hul, hn2, h6, hut, rfl⟩ T2 hT2
  simp only [push_cast, Nat.reduceBEq, Nat.reduceLeDiff, Nat.reduceAdd, h6, size_mkS]
  refine ⟨fun hc => by simp at hc; omega, fun hc => ?_, fun hc => ?_⟩
  · simp only [Bool.and_eq_true, decide_eq_true_eq] at hc
    rcases u with _ | ⟨y, r⟩
    · simp at hc
    rw [bt_first, show (32 : Int) = ((32 : UInt8).toNat : Int) from rfl, u8_eq] at hc
    obtain ⟨_, rfl⟩ := hc
    rw [tl_cons] at hut
    have hx1 : (mkS (32 :: r)).extract (1 : Int).toNat (32 :: r : Bytes).length = mkS r := ext_drop (32 :: r) 1
    simp only [List.length_cons] at hul
    refine ⟨by simp; omega, hT2 r.length _ _ (by simp only [push_cast, Nat.reduceBEq, Nat.reduceLeDiff]) (by rw [hn2]; simp) ⟨r, by omega, rfl, ?_, hut, rfl⟩⟩
    simp only [push_cast, Nat.reduceBEq, Nat.reduceLeDiff]
    rw [← hx1]; rfl
  have hu0 : Lib.trimLeftB u 32 = u := by
    rcases u with _ | ⟨y, r⟩
    · rfl
    · refine tl_stop y r fun hy => ?_
      rw [bt_first, hy] at hc
      simp at hc
  rw [hu0] at hut
  rw [hut] at hS
  clear hc hu0 hut
  have hu6 : u.length ≤ 1000000 := by omega
  clear hul hn2 hT2
  refine law_loop [(6, 6), (66, 81)] (fun n h' w' => ∃ z : Bytes, z.length ≤ u.length ∧ n = z.length ∧ h' 6 = .string (mkS z) ∧ Lib.trimRightB u 32 = Lib.trimRightB z 32 ∧ w1 = w') u.length ⟨u, by omega, rfl, h6, rfl, rfl⟩ ?_
  rintro n3 h3 w3 ⟨z, hzl, hn3, h6', hzt, rfl⟩ T3 hT3
  simp only [push_cast, Nat.reduceBEq, Nat.reduceLeDiff, Nat.reduceAdd, h6', size_mkS]
  rw [w64 (n := (z.length : Int) - 1) (by omega) (by omega)]
  refine ⟨fun hc => by simp at hc; omega, fun hc => ?_, fun hc => ?_⟩
  · simp only [Bool.and_eq_true, decide_eq_true_eq] at hc
    have hne : z ≠ [] := by rintro rfl; simp at hc
    obtain ⟨a, y, rfl⟩ : ∃ a y, z = a ++ [y] := ⟨z.dropLast, z.getLast hne, (List.dropLast_concat_getLast hne).symm⟩
    rw [show (((a ++ [y]).length : Nat) : Int) - 1 = (a.length : Int) from by simp, bt_last, show (32 : Int) = ((32 : UInt8).toNat : Int) from rfl, u8_eq] at hc
    obtain ⟨_, rfl⟩ := hc
    rw [tr_snoc] at hzt
    simp only [List.length_append, List.length_cons, List.length_nil] at hzl hn3
    have hx1 : (mkS (a ++ [32])).extract 0 a.length = mkS a := by rw [ext_take, List.take_left']; rfl
    refine ⟨by simp; omega, hT3 a.length _ _ (by simp only [push_cast, Nat.reduceBEq, Nat.reduceLeDiff]) (by omega) ⟨a, by omega, rfl, ?_, hzt, rfl⟩⟩
    simp only [push_cast, Nat.reduceBEq, Nat.reduceLeDiff]
    rw [← hx1]
    congr 2
    simp
  have hz0 : Lib.trimRightB z 32 = z := by
    by_cases hne : z = []
    · subst hne; rfl
    obtain ⟨a, y, rfl⟩ : ∃ a y, z = a ++ [y] := ⟨z.dropLast, z.getLast hne, (List.dropLast_concat_getLast hne).symm⟩
    refine tr_stop a y fun hy => ?_
    rw [show (((a ++ [y]).length : Nat) : Int) - 1 = (a.length : Int) from by simp, bt_last, hy] at hc
    simp at hc
  rw [hz0] at hzt
  rw [hzt] at hS
  clear hc hz0 hzt
  have hz6 : z.length ≤ 1000000 := by omega
  clear hzl hn3 hT3
  refine (rhas b v2 _ _ s (mkS nl) (by omega) w1 h1).mono ?_
  rintro e w3 ⟨rfl, rfl⟩
  rw [toL_mkS]
  simp only [push_cast, Nat.reduceBEq, Nat.reduceLeDiff, Nat.reduceAdd, h6']
  refine ⟨fun h15 => ?_, fun h15 => ?_⟩
  · simp only [decide_eq_true_eq] at h15
    rw [if_pos h15] at hS
    refine (rfail b v2 _ _ s 15 w1 h1).mono ?_
    rintro e w3 ⟨rfl, hR1, hb3⟩
    simp only [push_cast, Nat.reduceBEq, Nat.reduceLeDiff, Nat.reduceAdd]
    exact hR _ _ ⟨rfl, ⟨_, _, by rw [hS]; exact hR1⟩, hbb1.trans hb3⟩
  simp only [decide_eq_false_iff_not] at h15
  rw [if_neg h15] at hS
  simp only [push_cast, Nat.reduceBEq, Nat.reduceLeDiff, Nat.reduceAdd, h6', h1.c3, bsl34]
  refine getR_of (rblk_app3 h1 nl (by omega)) ?_
  rintro v3' w4 ⟨⟨A', c', rfl⟩, hc3, hf3, hR3, hb3⟩
  have hc4 : w4.cell? ⟨b, 4, none⟩ = some (.slice A4 s.vs.length c4) := by
    have := hR3.c4
    rw [sc_cell] at this; exact this
  have hf4 : w4.frozen? ⟨b, 4, none⟩ = false := by
    have := hR3.f 4
    rw [sc_frz] at this; exact this
  have happ := rblk_app4 hR3 z (by show s.vs.length ≤ _; omega)
  rw [sc_size] at happ
  simp only [push_cast, Nat.reduceBEq, Nat.reduceLeDiff, Nat.reduceAdd, h6', hc3, hf3, hc4, hf4, bsl34]
  refine getR_of happ ?_
  rintro v4' w5 ⟨⟨A5, c5, rfl⟩, hd4, hg4, hR4, hb4⟩
  simp only [push_cast, Nat.reduceBEq, Nat.reduceLeDiff, Nat.reduceAdd, h6', hd4, hg4]
  exact hR _ _ ⟨rfl, ⟨_, _, by rw [hS]; exact hR4⟩, hbb1.trans (hb3.trans hb4)⟩
end Go.Proofs.YtciepffocobgpaaGreatDoor
namespace Go.Proofs.YtciepffocobgpaaGreatDoor
open Go Go.Sx Go.RowKit
set_option linter.unusedSimpArgs false
set_option linter.unusedVariables false
theorem RBlk.set0 {w : World} {b : Nat} {v2 v3 v4 : Value} {s : RS} (h : RBlk w b v2 v3 v4 s) (r : Bytes) : RBlk (w.setCell ⟨b, 0, none⟩ (.string (mkS r))) b v2 v3 v4 { s with m := r } :=
  ⟨by rw [sc_cell, h.c0]; rfl, by rw [sc_cell]; exact h.c1, by rw [sc_cell]; exact h.c2, by rw [sc_cell]; exact h.c3, by rw [sc_cell]; exact h.c4, by rw [sc_cell]; exact h.c5, by rw [sc_cell]; exact h.c6, by rw [sc_cell]; exact h.c7, fun i => by rw [sc_frz]; exact h.f i, by rw [sc_size]; exact h.lt, pairsAt_set h.q h.qf (Nat.lt_succ_self _), h.qf, own_set h.n (Nat.lt_succ_self _), own_set h.v (Nat.lt_succ_self _), h.ne, h.n2⟩
theorem RBlk.set1 {w : World} {b : Nat} {v2 v3 v4 : Value} {s : RS} (h : RBlk w b v2 v3 v4 s) (r : Bytes) : RBlk (w.setCell ⟨b, 1, none⟩ (.string (mkS r))) b v2 v3 v4 { s with p := r } :=
  ⟨by rw [sc_cell]; exact h.c0, by rw [sc_cell, h.c1]; rfl, by rw [sc_cell]; exact h.c2, by rw [sc_cell]; exact h.c3, by rw [sc_cell]; exact h.c4, by rw [sc_cell]; exact h.c5, by rw [sc_cell]; exact h.c6, by rw [sc_cell]; exact h.c7, fun i => by rw [sc_frz]; exact h.f i, by rw [sc_size]; exact h.lt, pairsAt_set h.q h.qf (Nat.lt_succ_self _), h.qf, own_set h.n (Nat.lt_succ_self _), own_set h.v (Nat.lt_succ_self _), h.ne, h.n2⟩
theorem RBlk.set5 {w : World} {b : Nat} {v2 v3 v4 : Value} {s : RS} (h : RBlk w b v2 v3 v4 s) (r : Bytes) : RBlk (w.setCell ⟨b, 5, none⟩ (.string (mkS r))) b v2 v3 v4 { s with b := r } :=
  ⟨by rw [sc_cell]; exact h.c0, by rw [sc_cell]; exact h.c1, by rw [sc_cell]; exact h.c2, by rw [sc_cell]; exact h.c3, by rw [sc_cell]; exact h.c4, by rw [sc_cell, h.c5]; rfl, by rw [sc_cell]; exact h.c6, by rw [sc_cell]; exact h.c7, fun i => by rw [sc_frz]; exact h.f i, by rw [sc_size]; exact h.lt, pairsAt_set h.q h.qf (Nat.lt_succ_self _), h.qf, own_set h.n (Nat.lt_succ_self _), own_set h.v (Nat.lt_succ_self _), h.ne, h.n2⟩
theorem fresh_ne {w : World} {B size n : Nat} {T : TypeId} {v u : Value} {xs : List Value} (hf : FreshV w.heap.size v) (h : w.ownsRow B T size u n xs) : v.ownBlock = none ∨ v.ownBlock ≠ u.ownBlock := by
  cases hv : v.ownBlock with
  | none => exact .inl rfl
  | some k =>
    refine .inr fun e => ?_
    have h1 := (h.lt k e.symm).2
    unfold Value.ownBlock at hv
    split at hv
    · cases hv
      have : w.heap.size ≤ _ := hf
      omega
    · cases hv
theorem RBlk.set2 {w0 w : World} {b : Nat} {v2 v3 v4 v : Value} {s s0 : RS} {ps : List Pr} {u2 : Value} (h0 : RBlk w0 b u2 v3 v4 s0) (h : RBlk w b v2 v3 v4 s) (hq : PairsAt w v ps) (hf : FreshV w0.heap.size v) : RBlk (w.setCell ⟨b, 2, none⟩ v) b v v3 v4 { s with q := ps } :=
  have hfb : FreshV (b + 1) v := hf.mono h0.lt
  ⟨by rw [sc_cell]; exact h.c0, by rw [sc_cell]; exact h.c1, by rw [sc_cell, h.c2]; rfl, by rw [sc_cell]; exact h.c3, by rw [sc_cell]; exact h.c4, by rw [sc_cell]; exact h.c5, by rw [sc_cell]; exact h.c6, by rw [sc_cell]; exact h.c7, fun i => by rw [sc_frz]; exact h.f i, by rw [sc_size]; exact h.lt, pairsAt_set hq hfb (Nat.lt_succ_self _), hfb, own_set h.n (Nat.lt_succ_self _), own_set h.v (Nat.lt_succ_self _), h.ne, by
    rcases fresh_ne hf h0.n with e | e
    · exact .inl e
    · rcases fresh_ne hf h0.v with e' | e'
      · exact .inl e'
      · exact .inr ⟨e, e'⟩⟩
def pathQ (t : Bytes) : Bytes × Option Bytes := match cut1 63 t with | some (p, q) => (p, some q) | none => (t, none)
def pathC2 : Bytes := [45, 46, 95, 47, 58]
/-- What the reference says of a target. -/
def rtargetS (s1 : RS) (pq : Bytes × Option Bytes) : RS :=
  if inOk true true pathC2 100 pq.1 = true then
    if pq.1.head? = some 47 then
      match pq.2 with
      | none => s1
      | some q => match form q with
        | .ok ps => { s1 with q := ps }
        | .error e => failS e { s1 with q := [] }
    else failS 31 s1
  else failS 31 s1
/-- What the reference says of a first line. -/
def rfirstS (s : RS) (l : Bytes) : RS :=
  match parts 32 l with
  | [m, t, v] =>
    if inOk false false [] 10 m = true then
      if v = version then rtargetS { s with m := m, p := (pathQ t).1 } (pathQ t)
      else failS 31 s
    else failS 31 s
  | _ => failS 31 s
theorem rfirstS_not (s : RS) (l : Bytes) (h : (parts 32 l).length ≠ 3) : rfirstS s l = failS 31 s := by
  unfold rfirstS
  split
  · rename_i h2; rw [h2] at h; simp at h
  · rfl
theorem rfirst (b : Nat) (v2 v3 v4 : Value) (s : RS) (l : Bytes) (hs : l.length ≤ 1000000) (w : World) (h : RBlk w b v2 v3 v4 s) :
    Calls Tryz.prog 27 #[.pointer (some ⟨b, 0, none⟩), .string (mkS l)] w fun r w' => r = .returned (.tuple #[]) ∧ (∃ v2', RBlk w' b v2' v3 v4 (rfirstS s l)) ∧ Below b w w' := by
  refine calls_X Tryz.func27 rfl Tryz.ntmps27 Tryz.results27 rfl rfl (by kernel_rfl) fun R hR => ?_
  simp only [push_cast, Nat.reduceBEq, Nat.reduceLeDiff, Nat.reduceAdd]
  refine (rParts (mkS l) 32 (by rw [size_mkS]; omega) w).mono ?_
  rintro e w1 ⟨⟨vp, rfl, hown⟩, hb1⟩
  rw [toL_mkS] at hown
  have h1 := h.step hb1
  have hbb1 : Below b w w1 := hb1.mono (Nat.le_of_lt h.lt)
  have hfr := fresh_of_own hown
  obtain ⟨A, cc, rfl, hcells⟩ := strsAt_shape (strs_of_own hown)
  by_cases h3 : (parts 32 l).length = 3
  case neg =>
    have q1 : decide (((parts 32 l).length : Int) ≠ 3) = true := decide_eq_true (by omega)
    simp only [push_cast, Nat.reduceBEq, Nat.reduceLeDiff, Nat.reduceAdd, q1, Bool.not_true, Bool.true_or]
    refine (rfail b v2 _ _ s 31 w1 h1).mono ?_
    rintro e w2 ⟨rfl, hR2, hb2⟩
    simp only [push_cast, Nat.reduceBEq, Nat.reduceLeDiff, Nat.reduceAdd]
    exact hR _ _ ⟨rfl, ⟨_, by rw [rfirstS_not s l h3]; exact hR2⟩, hbb1.trans hb2⟩
  obtain ⟨m, t, v, hp⟩ : ∃ m t v, parts 32 l = [m, t, v] := by
    rcases hq : parts 32 l with _ | ⟨m, _ | ⟨t, _ | ⟨v, _ | ⟨x, r⟩⟩⟩⟩
    all_goals rw [hq] at h3; simp at h3
    exact ⟨m, t, v, rfl⟩
  have hlen : m.length ≤ 1000000 ∧ t.length ≤ 1000000 := ⟨Nat.le_trans (parts_le 32 l m (by rw [hp]; simp)) hs, Nat.le_trans (parts_le 32 l t (by rw [hp]; simp)) hs⟩
  obtain ⟨hml, htl⟩ := hlen
  have hS : rfirstS s l = if inOk false false [] 10 m = true then
      if v = version then rtargetS { s with m := m, p := (pathQ t).1 } (pathQ t)
      else failS 31 s
    else failS 31 s := by rw [rfirstS, hp]
  rw [hp] at hcells
  obtain ⟨g, o, rfl, hg, c0⟩ := hcells 0 m rfl
  obtain ⟨g1, o1, e1, _, c1⟩ := hcells 1 t rfl
  cases e1
  obtain ⟨g2, o2, e2, _, c2⟩ := hcells 2 v rfl
  cases e2
  have hgw : w.heap.size ≤ g := hfr
  have hbg : b ≠ g := by have := h.lt; omega
  simp only [Nat.add_zero] at c0
  clear hown hcells
  have q1 : decide ((0 : Int) + 1 + 1 + 1 ≠ 3) = false := rfl
  have q2 : Int.toNat 2 = 2 := rfl
  have q3 : Int.toNat 1 = 1 := rfl
  have q4 : Int.toNat 0 = 0 := rfl
  rw [h3]
  simp only [push_cast, Nat.reduceBEq, Nat.reduceLeDiff, Nat.reduceAdd, q1, q2, q3, q4, c0, c2, Nat.mul_one, Nat.zero_mul, Bool.not_false, Bool.false_or]
  refine ⟨by omega, (rin_ok m false false [] 10 w1 hml (by simp)).mono ?_⟩
  rintro e w2 ⟨rfl, rfl⟩
  cases hio : inOk false false [] 10 m with
  | false =>
    rw [hio, if_neg (by decide)] at hS
    simp only [push_cast, Nat.reduceBEq, Nat.reduceLeDiff, Nat.reduceAdd, q1, q2, q3, q4, c0, c2, Nat.mul_one, Nat.zero_mul, Bool.not_false, Bool.not_true, Bool.false_or, Bool.true_or]
    refine (rfail b v2 _ _ s 31 w1 h1).mono ?_
    rintro e w2 ⟨rfl, hR2, hb2⟩
    simp only [push_cast, Nat.reduceBEq, Nat.reduceLeDiff, Nat.reduceAdd]
    exact hR _ _ ⟨rfl, ⟨_, by rw [hS]; exact hR2⟩, hbb1.trans hb2⟩
  | true =>
  rw [hio, if_pos rfl] at hS
  have hv : (mkS v = { data := #[72, 84, 84, 80, 47, 49, 46, 49] }) ↔ v = version := mkS_eq v _
  by_cases hver : v = version
  case neg =>
    rw [if_neg hver] at hS
    have q5 : decide (mkS v ≠ { data := #[72, 84, 84, 80, 47, 49, 46, 49] }) = true := decide_eq_true (by rw [ne_eq, hv]; exact hver)
    simp only [push_cast, Nat.reduceBEq, Nat.reduceLeDiff, Nat.reduceAdd, q1, q2, q3, q4, c0, c2, Nat.mul_one, Nat.zero_mul, Bool.not_false, Bool.not_true, Bool.false_or, Bool.true_or, q5]
    refine ⟨by omega, ?_⟩
    refine (rfail b v2 _ _ s 31 w1 h1).mono ?_
    rintro e w2 ⟨rfl, hR2, hb2⟩
    simp only [push_cast, Nat.reduceBEq, Nat.reduceLeDiff, Nat.reduceAdd]
    exact hR _ _ ⟨rfl, ⟨_, by rw [hS]; exact hR2⟩, hbb1.trans hb2⟩
  rw [if_pos hver] at hS
  have q5 : decide (mkS v ≠ { data := #[72, 84, 84, 80, 47, 49, 46, 49] }) = false := decide_eq_false (by rw [ne_eq, hv]; exact fun h => h hver)
  have c1' : (w1.setCell ⟨b, 0, none⟩ (.string (mkS m))).cell? ⟨g, o + 1, none⟩ = some (.string (mkS t)) := (World.cell?_setCell_far _ ⟨b, 0, none⟩ ⟨g, o + 1, none⟩ _ hbg).trans c1
  have h2 := h1.set0 m
  have hb2 : Below b w (w1.setCell ⟨b, 0, none⟩ (.string (mkS m))) := hbb1.setCell (p := ⟨b, 0, none⟩) (Nat.le_refl _) _
  simp only [push_cast, Nat.reduceBEq, Nat.reduceLeDiff, Nat.reduceAdd, q1, q2, q3, q4, c0, c1', c2, Nat.mul_one, Nat.zero_mul, Bool.not_false, Bool.not_true, Bool.false_or, Bool.true_or, q5, h1.c0, h1.c1, h1.f]
  refine ⟨by omega, by omega, by omega, ?_⟩
  have h4 := h2.set1 t
  have hb4 : Below b w ((w1.setCell ⟨b, 0, none⟩ (.string (mkS m))).setCell ⟨b, 1, none⟩ (.string (mkS t))) := hb2.setCell (p := ⟨b, 1, none⟩) (Nat.le_refl _) _
  generalize (w1.setCell ⟨b, 0, none⟩ (.string (mkS m))).setCell ⟨b, 1, none⟩ (.string (mkS t)) = w4 at h4 hb4
  clear c0 c1 c2 c1' h2 hb2 q1 q2 q3 q4 q5 hv hver hio h3 hp hfr hg hgw hbg h1 hbb1 hb1
  refine law_loop [(6, 8), (44, 67)] (fun n h' w' => ∃ (k : Nat) (asked : Bool) (p q : Bytes), k ≤ t.length ∧ n = t.length - k ∧ h' 8 = .int .i64 k ∧ h' 7 = .bool asked ∧ h' 6 = .string (mkS q) ∧ RBlk w' b v2 v3 v4 { s with m := m, p := p } ∧ Below b w w' ∧
    ((asked = false ∧ p = t ∧ q = [] ∧ cut1 63 t = (cut1 63 (t.drop k)).map (fun p => (t.take k ++ p.1, p.2))) ∨ (asked = true ∧ cut1 63 t = some (p, q)))) t.length ⟨0, false, t, [], by omega, by omega, rfl, rfl, rfl, h4, hb4, .inl ⟨rfl, rfl, rfl, by rw [List.drop_zero]; cases cut1 63 t <;> simp⟩⟩ ?_
  rintro n h' w5 ⟨k, asked, p, q, hk, hn, h8, h7, h6, h5, hb5, hinv⟩ T hT
  by_cases hgo : k < t.length ∧ asked = false
  · obtain ⟨hkl, rfl⟩ := hgo
    rcases hinv with ⟨_, rfl, rfl, hcl⟩ | ⟨hh, _⟩
    case inr => cases hh
    have q1 : decide ((k : Int) < p.length) = true := decide_eq_true (by omega)
    have hbk : bt (mkS p) k = ((p[k]).toNat : Int) := by
      have := bt_get (mkS p) k (by rw [toL_mkS]; omega)
      simp only [toL_mkS] at this; exact this
    have hd := List.drop_eq_getElem_cons hkl
    have htk : p.take (k + 1) = p.take k ++ [p[k]] := List.take_succ_eq_append_getElem hkl
    generalize p[k] = x at hd htk hbk
    have e63 : ((x.toNat : Int) = 63) ↔ x = 63 := u8_eq x 63
    rw [hd, cut1] at hcl
    have hw1 : IntKind.i64.wrap ((k : Int) + 1) = (k : Int) + 1 := w64 (by omega) (by omega)
    by_cases hx : x = 63
    · have q2 : decide ((x.toNat : Int) = 63) = true := decide_eq_true (e63.2 hx)
      rw [if_pos hx] at hcl
      have hcs : cut1 63 p = some (p.take k, p.drop (k + 1)) := by rw [hcl]; simp
      have hx1 : (mkS p).extract 0 k = mkS (p.take k) := ext_take p k
      have hx2 : (mkS p).extract ((k : Int) + 1).toNat p.length = mkS (p.drop (k + 1)) := ext_drop p (k + 1)
      simp only [push_cast, Nat.reduceBEq, Nat.reduceLeDiff, Nat.reduceAdd, h8, h7, h6, size_mkS, q1, q2, hbk, hw1, hx1, hx2, Bool.not_false, Bool.and_self, h5.c1, h5.f]
      refine ⟨by omega, by omega, by omega, hT (p.length - (k + 1)) _ _ (by simp only [push_cast, Nat.reduceBEq, Nat.reduceLeDiff]) (by omega) ⟨k + 1, true, p.take k, p.drop (k + 1), by omega, rfl, ?_, ?_, ?_, h5.set1 _, hb5.setCell (p := ⟨b, 1, none⟩) (Nat.le_refl _) _, .inr ⟨rfl, hcs⟩⟩⟩
      · simp only [push_cast, Nat.reduceBEq, Nat.reduceLeDiff]
      · simp only [push_cast, Nat.reduceBEq, Nat.reduceLeDiff]
      · simp only [push_cast, Nat.reduceBEq, Nat.reduceLeDiff]
    · have q2 : decide ((x.toNat : Int) = 63) = false := decide_eq_false (by rw [e63]; exact hx)
      rw [if_neg hx] at hcl
      simp only [push_cast, Nat.reduceBEq, Nat.reduceLeDiff, Nat.reduceAdd, h8, h7, h6, size_mkS, q1, q2, hbk, hw1, Bool.not_false, Bool.and_self]
      refine ⟨by omega, hT (p.length - (k + 1)) _ _ (by simp only [push_cast, Nat.reduceBEq, Nat.reduceLeDiff]) (by omega) ⟨k + 1, false, p, [], by omega, rfl, ?_, ?_, ?_, h5, hb5, .inl ⟨rfl, rfl, rfl, ?_⟩⟩⟩
      · simp only [push_cast, Nat.reduceBEq, Nat.reduceLeDiff]
      · simp only [push_cast, Nat.reduceBEq, Nat.reduceLeDiff]; exact h7
      · simp only [push_cast, Nat.reduceBEq, Nat.reduceLeDiff]; exact h6
      · rw [hcl, htk]; cases cut1 63 (p.drop (k + 1)) <;> simp
  have hpq : pathQ t = (p, bif asked then some q else none) ∧ p.length ≤ t.length ∧ q.length ≤ t.length := by
    rcases hinv with ⟨rfl, rfl, rfl, hcl⟩ | ⟨rfl, hcs⟩
    · have hk2 : k = p.length := by
        by_cases h0 : k < p.length
        · exact absurd ⟨h0, rfl⟩ hgo
        · omega
      rw [hk2, List.drop_length] at hcl
      have : cut1 63 p = none := by rw [hcl]; rfl
      refine ⟨by rw [pathQ, this]; rfl, by omega, by simp⟩
    · have := cut1_len hcs
      refine ⟨by rw [pathQ, hcs]; rfl, by omega, by omega⟩
  obtain ⟨hpq, hpl, hql⟩ := hpq
  rw [hpq] at hS
  have qc : (decide ((k : Int) < t.length) && !asked) = false := by
    rw [Bool.and_eq_false_iff]
    cases asked
    · left; exact decide_eq_false (by intro h0; exact hgo ⟨by omega, rfl⟩)
    · right; rfl
  simp only [push_cast, Nat.reduceBEq, Nat.reduceLeDiff, Nat.reduceAdd, h8, h7, h6, size_mkS, qc, h5.c1, h5.f]
  clear hgo qc h8 hn hk hinv hT
  refine (rin_ok p true true pathC2 100 w5 (by omega) (by simp [pathC2])).mono ?_
  rintro e w6 ⟨rfl, rfl⟩
  rw [rtargetS] at hS
  simp only at hS
  cases hio : inOk true true pathC2 100 p with
  | false =>
    rw [hio, if_neg (by decide)] at hS
    simp only [push_cast, Nat.reduceBEq, Nat.reduceLeDiff, Nat.reduceAdd, h7, h6, size_mkS, h5.c1, h5.f, Bool.not_false, Bool.true_or, Bool.not_true]
    refine (rfail b v2 _ _ _ 31 w5 h5).mono ?_
    rintro e w2 ⟨rfl, hR2, hb2⟩
    simp only [push_cast, Nat.reduceBEq, Nat.reduceLeDiff, Nat.reduceAdd]
    exact hR _ _ ⟨rfl, ⟨_, by rw [hS]; exact hR2⟩, hb5.trans hb2⟩
  | true =>
  rw [hio, if_pos rfl] at hS
  obtain ⟨y, r, rfl⟩ : ∃ y r, p = y :: r := by
    rcases p with _ | ⟨y, r⟩
    · cases hio
    · exact ⟨_, _, rfl⟩
  have hb0 : bt (mkS (y :: r)) 0 = (y.toNat : Int) := bt_first y r
  have e47 : ((y.toNat : Int) = 47) ↔ y = 47 := u8_eq y 47
  by_cases hy : y = 47
  case neg =>
    have q5 : decide ((y.toNat : Int) ≠ 47) = true := decide_eq_true (by rw [ne_eq, e47]; exact hy)
    rw [if_neg (by simpa using hy)] at hS
    simp only [push_cast, Nat.reduceBEq, Nat.reduceLeDiff, Nat.reduceAdd, h7, h6, size_mkS, h5.c1, h5.f, Bool.not_false, Bool.false_or, Bool.true_or, Bool.not_true, hb0, q5]
    refine ⟨by omega, ?_⟩
    refine (rfail b v2 _ _ _ 31 w5 h5).mono ?_
    rintro e w2 ⟨rfl, hR2, hb2⟩
    simp only [push_cast, Nat.reduceBEq, Nat.reduceLeDiff, Nat.reduceAdd]
    exact hR _ _ ⟨rfl, ⟨_, by rw [hS]; exact hR2⟩, hb5.trans hb2⟩
  have q5 : decide ((y.toNat : Int) ≠ 47) = false := decide_eq_false (by rw [ne_eq, e47]; exact fun h => h hy)
  rw [if_pos (by simpa using hy)] at hS
  simp only [push_cast, Nat.reduceBEq, Nat.reduceLeDiff, Nat.reduceAdd, h7, h6, size_mkS, h5.c1, h5.f, Bool.not_false, Bool.false_or, Bool.true_or, Bool.not_true, hb0, q5]
  refine ⟨by omega, ?_⟩
  refine ⟨fun ha => ?_, fun ha => ?_⟩
  case refine_2 =>
    subst ha
    exact hR _ _ ⟨rfl, ⟨_, by rw [hS]; exact h5⟩, hb5⟩
  subst ha
  simp only [cond_true] at hS
  refine (rForm (mkS q) (by rw [size_mkS]; omega) w5).mono ?_
  rintro e w6 ⟨hP, hb6⟩
  rw [toL_mkS] at hP
  have h6' := h5.step hb6
  have hbb6 : Below b w w6 := hb5.trans (hb6.mono (Nat.le_of_lt h5.lt))
  cases hf : form q with
  | error er =>
    rw [hf] at hP hS
    simp only [FormPost] at hP
    subst hP
    simp only at hS
    have hne := form_err hf
    have q6 : decide (er ≠ 0) = true := decide_eq_true hne
    have h7' := RBlk.set2 h5 h6' (v := .slice none 0 0) (ps := []) (.inl ⟨0, rfl, rfl⟩) trivial
    have hb7 : Below b w (w6.setCell ⟨b, 2, none⟩ (.slice none 0 0)) := hbb6.setCell (p := ⟨b, 2, none⟩) (Nat.le_refl _) _
    simp only [push_cast, Nat.reduceBEq, Nat.reduceLeDiff, Nat.reduceAdd, h7, h6, size_mkS, h6'.c2, h6'.f, q6]
    refine (rfail b _ _ _ _ er _ h7').mono ?_
    rintro e w8 ⟨rfl, hR2, hb8⟩
    simp only [push_cast, Nat.reduceBEq, Nat.reduceLeDiff, Nat.reduceAdd]
    exact hR _ _ ⟨rfl, ⟨_, by rw [hS]; exact hR2⟩, hb7.trans hb8⟩
  | ok ps =>
    rw [hf] at hP hS
    obtain ⟨vq, rfl, hq, hqf⟩ := hP
    simp only at hS
    obtain ⟨z1, z2⟩ := cl_pairs hq
    have q6 : decide ((0 : Int) ≠ 0) = false := rfl
    have h7' := RBlk.set2 h5 h6' hq hqf
    have hb7 : Below b w (w6.setCell ⟨b, 2, none⟩ vq) := hbb6.setCell (p := ⟨b, 2, none⟩) (Nat.le_refl _) _
    simp only [push_cast, Nat.reduceBEq, Nat.reduceLeDiff, Nat.reduceAdd, h7, h6, size_mkS, h6'.c2, h6'.f, q6, z1, z2]
    exact hR _ _ ⟨rfl, ⟨_, by rw [hS]; exact h7'⟩, hb7⟩
end Go.Proofs.YtciepffocobgpaaGreatDoor
namespace Go.Proofs.YtciepffocobgpaaGreatDoor
open Go Go.Sx Go.RowKit
set_option linter.unusedSimpArgs false
set_option linter.unusedVariables false
/-- Within bounds. -/
structure RSok (s : RS) : Prop where
  n : s.ns.length ≤ 32
  v : s.vs.length = s.ns.length
  r : s.r.length ≤ 1000000
  s : ∀ v ∈ s.vs, v.length ≤ 1000000
theorem RSok.fail {s : RS} (h : RSok s) (e : Int) : RSok (failS e s) := by
  unfold failS; split
  · exact ⟨h.n, h.v, h.r, h.s⟩
  · exact h
theorem failS_r (e : Int) (s : RS) : (failS e s).r = s.r := by unfold failS; split <;> rfl
theorem failS_ns (e : Int) (s : RS) : (failS e s).ns = s.ns := by unfold failS; split <;> rfl
theorem trim_le (v : Bytes) : (Lib.trimRightB (Lib.trimLeftB v 32) 32).length ≤ v.length := by
  unfold Lib.trimRightB Lib.trimLeftB
  rw [List.length_reverse]
  refine Nat.le_trans (dropWhile_le _ _) ?_
  rw [List.length_reverse]; exact dropWhile_le _ _
theorem RSok.header {s : RS} (h : RSok s) (l : Bytes) (hl : l.length ≤ 1000000) : RSok (rheaderS s l) ∧ (rheaderS s l).r = s.r := by
  unfold rheaderS
  split
  · exact ⟨h.fail _, failS_r _ _⟩
  rename_i h32
  split
  · exact ⟨h.fail _, failS_r _ _⟩
  rename_i n v hc
  have hlen := cut1_len hc
  split
  · split
    · split
      · exact ⟨h.fail _, failS_r _ _⟩
      · refine ⟨⟨by simp; omega, by simp [h.v], h.r, fun u hu => ?_⟩, rfl⟩
        rcases List.mem_append.1 hu with hu | hu
        · exact h.s u hu
        · simp at hu; subst hu
          have := trim_le v; omega
    · exact ⟨h.fail _, failS_r _ _⟩
  · exact ⟨h.fail _, failS_r _ _⟩
theorem RSok.line {s : RS} (h : RSok s) : RSok (lineS s).2 ∧ (lineS s).1.length ≤ 1000000 ∧ ((lineS s).1 ≠ [] → (lineS s).2.r.length < s.r.length) := by
  unfold lineS
  cases hc : cutLine s.r with
  | none => exact ⟨h.fail _, by simp, fun h => absurd rfl h⟩
  | some p =>
    obtain ⟨a, c⟩ := p
    have := cutLine_len hc
    have hr := h.r
    exact ⟨⟨h.n, h.v, by show c.length ≤ _; omega, h.s⟩, by show a.length ≤ _; omega, fun _ => by show c.length < _; omega⟩
def hdrLoopS : Nat → RS → RS
  | 0, s => s
  | f + 1, s => if s.e = 0 then (if (lineS s).1 = [] then (lineS s).2 else hdrLoopS f (rheaderS (lineS s).2 (lineS s).1)) else s
def tail4 (c : Int × RS) : RS := let s5 := if c.1 ≠ c.2.r.length then failS 10 c.2 else c.2; { s5 with b := s5.r }
def tail3 (most : Int) (s2 : RS) : RS := tail4 (rcountS (if 0 ≤ hasI s2.ns tenc 0 then failS 42 s2 else s2) most)
def tailR (host : Bool) (most : Int) (s1 : RS) : RS := tail3 most (if host = true ∧ hasI s1.ns hostB 0 < 0 then failS 10 s1 else s1)
def tailS (host : Bool) (most : Int) (s0 : RS) : RS := tailR host most (hdrLoopS (s0.r.length + 1) s0)
theorem rtail (b : Nat) (v2 v3 v4 : Value) (s : RS) (host : Bool) (most : Int) (hok : RSok s) (w : World) (h : RBlk w b v2 v3 v4 s) :
    Calls Tryz.prog 28 #[.pointer (some ⟨b, 0, none⟩), .bool host, .int .i64 most] w fun r w' => r = .returned (.tuple #[]) ∧ (∃ v3' v4', RBlk w' b v2 v3' v4' (tailS host most s)) ∧ Below b w w' := by
  refine calls_X Tryz.func28 rfl Tryz.ntmps28 Tryz.results28 rfl rfl (by kernel_rfl) fun R hR => ?_
  simp only [push_cast, Nat.reduceBEq, Nat.reduceLeDiff, Nat.reduceAdd]
  unfold tailS at hR
  generalize hL : hdrLoopS (s.r.length + 1) s = sL at hR
  refine law_loop [(6, 6), (8, 19)] (fun n h' w' => ∃ (f : Nat) (s' : RS) (v3' v4' : Value), n = s'.r.length ∧ s'.r.length < f ∧ sL = hdrLoopS f s' ∧ RSok s' ∧ RBlk w' b v2 v3' v4' s' ∧ Below b w w') s.r.length ⟨s.r.length + 1, s, v3, v4, rfl, by omega, hL.symm, hok, h, Below.refl _ _⟩ ?_
  rintro n h' w1 ⟨f, s', v3', v4', hn, hf, hfu, hok', h1, hb1⟩ T hT
  obtain ⟨f, rfl⟩ : ∃ m, f = m + 1 := ⟨f - 1, by omega⟩
  rw [hdrLoopS] at hfu
  simp only [push_cast, Nat.reduceBEq, Nat.reduceLeDiff, Nat.reduceAdd, h1.c6]
  refine ⟨fun he => ?_, fun he => ?_⟩
  · simp only [decide_eq_true_eq] at he
    rw [if_pos he] at hfu
    refine (rline b _ _ _ s' (by have := hok'.r; omega) w1 h1).mono ?_
    rintro e w2 ⟨rfl, h2, hb2⟩
    obtain ⟨ok2, hll, hlt⟩ := hok'.line
    have hb12 := hb1.trans hb2
    have hnil : (mkS (lineS s').1 = { data := #[] }) ↔ (lineS s').1 = [] := mkS_nil _
    by_cases hl0 : (lineS s').1 = []
    · rw [if_pos hl0] at hfu
      have q1 : decide (mkS (lineS s').1 = { data := #[] }) = true := decide_eq_true (hnil.2 hl0)
      simp only [push_cast, Nat.reduceBEq, Nat.reduceLeDiff, Nat.reduceAdd, q1]
      cases host with
      | false =>
        simp only [push_cast, Nat.reduceBEq, Nat.reduceLeDiff, Nat.reduceAdd, size_mkS, Bool.false_and]
        refine (rhas b _ _ _ (lineS s').2 (mkS tenc) (by have := ok2.n; omega) w2 h2).mono ?_
        rintro e w' ⟨rfl, rfl⟩
        rw [toL_mkS]
        simp only [push_cast, Nat.reduceBEq, Nat.reduceLeDiff, Nat.reduceAdd, size_mkS]
        refine ⟨fun ht => ?_, fun ht => ?_⟩
        · simp only [decide_eq_true_eq] at ht
          refine (rfail b _ _ _ _ 42 w2 h2).mono ?_
          rintro e w3 ⟨rfl, h3, hb3⟩
          simp only [push_cast, Nat.reduceBEq, Nat.reduceLeDiff, Nat.reduceAdd, size_mkS]
          refine (rcount b _ _ _ (failS 42 (lineS s').2) most (by have := (ok2.fail 42).n; omega) (ok2.fail 42).v (ok2.fail 42).s w3 h3).mono ?_
          rintro e w4 ⟨rfl, h4, hb4⟩
          simp only [push_cast, Nat.reduceBEq, Nat.reduceLeDiff, Nat.reduceAdd, size_mkS, h4.c7]
          refine ⟨fun hq => ?_, fun hq => ?_⟩
          · simp only [decide_eq_true_eq] at hq
            refine (rfail b _ _ _ _ 10 w4 h4).mono ?_
            rintro e w5 ⟨rfl, h5, hb5⟩
            simp only [push_cast, Nat.reduceBEq, Nat.reduceLeDiff, Nat.reduceAdd, size_mkS, h5.c7, h5.c5, h5.f]
            exact hR _ _ ⟨rfl, ⟨_, _, by rw [hfu, tailR, if_neg (by simp), tail3, if_pos ht, tail4, if_pos hq]; exact h5.set5 _⟩, ((((hb12).trans hb3).trans hb4).trans hb5).setCell (p := ⟨b, 5, none⟩) (Nat.le_refl _) _⟩
          · simp only [decide_eq_false_iff_not] at hq
            simp only [push_cast, Nat.reduceBEq, Nat.reduceLeDiff, Nat.reduceAdd, size_mkS, h4.c7, h4.c5, h4.f]
            exact hR _ _ ⟨rfl, ⟨_, _, by rw [hfu, tailR, if_neg (by simp), tail3, if_pos ht, tail4, if_neg hq]; exact h4.set5 _⟩, (((hb12).trans hb3).trans hb4).setCell (p := ⟨b, 5, none⟩) (Nat.le_refl _) _⟩
        · simp only [decide_eq_false_iff_not] at ht
          refine (rcount b _ _ _ (lineS s').2 most (by have := ok2.n; omega) ok2.v ok2.s w2 h2).mono ?_
          rintro e w4 ⟨rfl, h4, hb4⟩
          simp only [push_cast, Nat.reduceBEq, Nat.reduceLeDiff, Nat.reduceAdd, size_mkS, h4.c7]
          refine ⟨fun hq => ?_, fun hq => ?_⟩
          · simp only [decide_eq_true_eq] at hq
            refine (rfail b _ _ _ _ 10 w4 h4).mono ?_
            rintro e w5 ⟨rfl, h5, hb5⟩
            simp only [push_cast, Nat.reduceBEq, Nat.reduceLeDiff, Nat.reduceAdd, size_mkS, h5.c7, h5.c5, h5.f]
            exact hR _ _ ⟨rfl, ⟨_, _, by rw [hfu, tailR, if_neg (by simp), tail3, if_neg ht, tail4, if_pos hq]; exact h5.set5 _⟩, (((hb12).trans hb4).trans hb5).setCell (p := ⟨b, 5, none⟩) (Nat.le_refl _) _⟩
          · simp only [decide_eq_false_iff_not] at hq
            simp only [push_cast, Nat.reduceBEq, Nat.reduceLeDiff, Nat.reduceAdd, size_mkS, h4.c7, h4.c5, h4.f]
            exact hR _ _ ⟨rfl, ⟨_, _, by rw [hfu, tailR, if_neg (by simp), tail3, if_neg ht, tail4, if_neg hq]; exact h4.set5 _⟩, ((hb12).trans hb4).setCell (p := ⟨b, 5, none⟩) (Nat.le_refl _) _⟩
      | true =>
        simp only [push_cast, Nat.reduceBEq, Nat.reduceLeDiff, Nat.reduceAdd, size_mkS, Bool.true_and]
        refine (rhas b _ _ _ (lineS s').2 (mkS hostB) (by have := ok2.n; omega) w2 h2).mono ?_
        rintro e w' ⟨rfl, rfl⟩
        rw [toL_mkS]
        simp only [push_cast, Nat.reduceBEq, Nat.reduceLeDiff, Nat.reduceAdd, size_mkS, Bool.true_and]
        refine ⟨fun hh => ?_, fun hh => ?_⟩
        · simp only [decide_eq_true_eq] at hh
          refine (rfail b _ _ _ _ 10 w2 h2).mono ?_
          rintro e w2 ⟨rfl, h2, hb2⟩
          simp only [push_cast, Nat.reduceBEq, Nat.reduceLeDiff, Nat.reduceAdd, size_mkS]
          refine (rhas b _ _ _ (failS 10 (lineS s').2) (mkS tenc) (by have := (ok2.fail 10).n; omega) w2 h2).mono ?_
          rintro e w' ⟨rfl, rfl⟩
          rw [toL_mkS]
          simp only [push_cast, Nat.reduceBEq, Nat.reduceLeDiff, Nat.reduceAdd, size_mkS]
          refine ⟨fun ht => ?_, fun ht => ?_⟩
          · simp only [decide_eq_true_eq] at ht
            refine (rfail b _ _ _ _ 42 w2 h2).mono ?_
            rintro e w3 ⟨rfl, h3, hb3⟩
            simp only [push_cast, Nat.reduceBEq, Nat.reduceLeDiff, Nat.reduceAdd, size_mkS]
            refine (rcount b _ _ _ (failS 42 (failS 10 (lineS s').2)) most (by have := ((ok2.fail 10).fail 42).n; omega) ((ok2.fail 10).fail 42).v ((ok2.fail 10).fail 42).s w3 h3).mono ?_
            rintro e w4 ⟨rfl, h4, hb4⟩
            simp only [push_cast, Nat.reduceBEq, Nat.reduceLeDiff, Nat.reduceAdd, size_mkS, h4.c7]
            refine ⟨fun hq => ?_, fun hq => ?_⟩
            · simp only [decide_eq_true_eq] at hq
              refine (rfail b _ _ _ _ 10 w4 h4).mono ?_
              rintro e w5 ⟨rfl, h5, hb5⟩
              simp only [push_cast, Nat.reduceBEq, Nat.reduceLeDiff, Nat.reduceAdd, size_mkS, h5.c7, h5.c5, h5.f]
              exact hR _ _ ⟨rfl, ⟨_, _, by rw [hfu, tailR, if_pos ⟨rfl, hh⟩, tail3, if_pos ht, tail4, if_pos hq]; exact h5.set5 _⟩, (((((hb12).trans hb2).trans hb3).trans hb4).trans hb5).setCell (p := ⟨b, 5, none⟩) (Nat.le_refl _) _⟩
            · simp only [decide_eq_false_iff_not] at hq
              simp only [push_cast, Nat.reduceBEq, Nat.reduceLeDiff, Nat.reduceAdd, size_mkS, h4.c7, h4.c5, h4.f]
              exact hR _ _ ⟨rfl, ⟨_, _, by rw [hfu, tailR, if_pos ⟨rfl, hh⟩, tail3, if_pos ht, tail4, if_neg hq]; exact h4.set5 _⟩, ((((hb12).trans hb2).trans hb3).trans hb4).setCell (p := ⟨b, 5, none⟩) (Nat.le_refl _) _⟩
          · simp only [decide_eq_false_iff_not] at ht
            refine (rcount b _ _ _ (failS 10 (lineS s').2) most (by have := (ok2.fail 10).n; omega) (ok2.fail 10).v (ok2.fail 10).s w2 h2).mono ?_
            rintro e w4 ⟨rfl, h4, hb4⟩
            simp only [push_cast, Nat.reduceBEq, Nat.reduceLeDiff, Nat.reduceAdd, size_mkS, h4.c7]
            refine ⟨fun hq => ?_, fun hq => ?_⟩
            · simp only [decide_eq_true_eq] at hq
              refine (rfail b _ _ _ _ 10 w4 h4).mono ?_
              rintro e w5 ⟨rfl, h5, hb5⟩
              simp only [push_cast, Nat.reduceBEq, Nat.reduceLeDiff, Nat.reduceAdd, size_mkS, h5.c7, h5.c5, h5.f]
              exact hR _ _ ⟨rfl, ⟨_, _, by rw [hfu, tailR, if_pos ⟨rfl, hh⟩, tail3, if_neg ht, tail4, if_pos hq]; exact h5.set5 _⟩, ((((hb12).trans hb2).trans hb4).trans hb5).setCell (p := ⟨b, 5, none⟩) (Nat.le_refl _) _⟩
            · simp only [decide_eq_false_iff_not] at hq
              simp only [push_cast, Nat.reduceBEq, Nat.reduceLeDiff, Nat.reduceAdd, size_mkS, h4.c7, h4.c5, h4.f]
              exact hR _ _ ⟨rfl, ⟨_, _, by rw [hfu, tailR, if_pos ⟨rfl, hh⟩, tail3, if_neg ht, tail4, if_neg hq]; exact h4.set5 _⟩, (((hb12).trans hb2).trans hb4).setCell (p := ⟨b, 5, none⟩) (Nat.le_refl _) _⟩
        · simp only [decide_eq_false_iff_not] at hh
          refine (rhas b _ _ _ (lineS s').2 (mkS tenc) (by have := ok2.n; omega) w2 h2).mono ?_
          rintro e w' ⟨rfl, rfl⟩
          rw [toL_mkS]
          simp only [push_cast, Nat.reduceBEq, Nat.reduceLeDiff, Nat.reduceAdd, size_mkS]
          refine ⟨fun ht => ?_, fun ht => ?_⟩
          · simp only [decide_eq_true_eq] at ht
            refine (rfail b _ _ _ _ 42 w2 h2).mono ?_
            rintro e w3 ⟨rfl, h3, hb3⟩
            simp only [push_cast, Nat.reduceBEq, Nat.reduceLeDiff, Nat.reduceAdd, size_mkS]
            refine (rcount b _ _ _ (failS 42 (lineS s').2) most (by have := (ok2.fail 42).n; omega) (ok2.fail 42).v (ok2.fail 42).s w3 h3).mono ?_
            rintro e w4 ⟨rfl, h4, hb4⟩
            simp only [push_cast, Nat.reduceBEq, Nat.reduceLeDiff, Nat.reduceAdd, size_mkS, h4.c7]
            refine ⟨fun hq => ?_, fun hq => ?_⟩
            · simp only [decide_eq_true_eq] at hq
              refine (rfail b _ _ _ _ 10 w4 h4).mono ?_
              rintro e w5 ⟨rfl, h5, hb5⟩
              simp only [push_cast, Nat.reduceBEq, Nat.reduceLeDiff, Nat.reduceAdd, size_mkS, h5.c7, h5.c5, h5.f]
              exact hR _ _ ⟨rfl, ⟨_, _, by rw [hfu, tailR, if_neg (fun x => hh x.2), tail3, if_pos ht, tail4, if_pos hq]; exact h5.set5 _⟩, ((((hb12).trans hb3).trans hb4).trans hb5).setCell (p := ⟨b, 5, none⟩) (Nat.le_refl _) _⟩
            · simp only [decide_eq_false_iff_not] at hq
              simp only [push_cast, Nat.reduceBEq, Nat.reduceLeDiff, Nat.reduceAdd, size_mkS, h4.c7, h4.c5, h4.f]
              exact hR _ _ ⟨rfl, ⟨_, _, by rw [hfu, tailR, if_neg (fun x => hh x.2), tail3, if_pos ht, tail4, if_neg hq]; exact h4.set5 _⟩, (((hb12).trans hb3).trans hb4).setCell (p := ⟨b, 5, none⟩) (Nat.le_refl _) _⟩
          · simp only [decide_eq_false_iff_not] at ht
            refine (rcount b _ _ _ (lineS s').2 most (by have := ok2.n; omega) ok2.v ok2.s w2 h2).mono ?_
            rintro e w4 ⟨rfl, h4, hb4⟩
            simp only [push_cast, Nat.reduceBEq, Nat.reduceLeDiff, Nat.reduceAdd, size_mkS, h4.c7]
            refine ⟨fun hq => ?_, fun hq => ?_⟩
            · simp only [decide_eq_true_eq] at hq
              refine (rfail b _ _ _ _ 10 w4 h4).mono ?_
              rintro e w5 ⟨rfl, h5, hb5⟩
              simp only [push_cast, Nat.reduceBEq, Nat.reduceLeDiff, Nat.reduceAdd, size_mkS, h5.c7, h5.c5, h5.f]
              exact hR _ _ ⟨rfl, ⟨_, _, by rw [hfu, tailR, if_neg (fun x => hh x.2), tail3, if_neg ht, tail4, if_pos hq]; exact h5.set5 _⟩, (((hb12).trans hb4).trans hb5).setCell (p := ⟨b, 5, none⟩) (Nat.le_refl _) _⟩
            · simp only [decide_eq_false_iff_not] at hq
              simp only [push_cast, Nat.reduceBEq, Nat.reduceLeDiff, Nat.reduceAdd, size_mkS, h4.c7, h4.c5, h4.f]
              exact hR _ _ ⟨rfl, ⟨_, _, by rw [hfu, tailR, if_neg (fun x => hh x.2), tail3, if_neg ht, tail4, if_neg hq]; exact h4.set5 _⟩, ((hb12).trans hb4).setCell (p := ⟨b, 5, none⟩) (Nat.le_refl _) _⟩
    · rw [if_neg hl0] at hfu
      have q1 : decide (mkS (lineS s').1 = { data := #[] }) = false := decide_eq_false (fun h => hl0 (hnil.1 h))
      simp only [push_cast, Nat.reduceBEq, Nat.reduceLeDiff, Nat.reduceAdd, q1]
      refine (rheader b _ _ _ _ (lineS s').1 (by have := ok2.n; omega) ok2.v hll w2 h2).mono ?_
      rintro e w3 ⟨rfl, ⟨v3x, v4x, h3⟩, hb3⟩
      obtain ⟨ok3, hr3⟩ := ok2.header (lineS s').1 hll
      have := hlt hl0
      simp only [push_cast, Nat.reduceBEq, Nat.reduceLeDiff, Nat.reduceAdd]
      exact hT (rheaderS (lineS s').2 (lineS s').1).r.length _ _ (by simp only [push_cast, Nat.reduceBEq, Nat.reduceLeDiff]) (by rw [hr3]; omega) ⟨f, _, v3x, v4x, rfl, by rw [hr3]; omega, hfu, ok3, h3, hb12.trans hb3⟩
  · simp only [decide_eq_false_iff_not] at he
    rw [if_neg he] at hfu
    cases host with
    | false =>
      simp only [push_cast, Nat.reduceBEq, Nat.reduceLeDiff, Nat.reduceAdd, size_mkS, Bool.false_and]
      refine (rhas b _ _ _ s' (mkS tenc) (by have := hok'.n; omega) w1 h1).mono ?_
      rintro e w' ⟨rfl, rfl⟩
      rw [toL_mkS]
      simp only [push_cast, Nat.reduceBEq, Nat.reduceLeDiff, Nat.reduceAdd, size_mkS]
      refine ⟨fun ht => ?_, fun ht => ?_⟩
      · simp only [decide_eq_true_eq] at ht
        refine (rfail b _ _ _ _ 42 w1 h1).mono ?_
        rintro e w3 ⟨rfl, h3, hb3⟩
        simp only [push_cast, Nat.reduceBEq, Nat.reduceLeDiff, Nat.reduceAdd, size_mkS]
        refine (rcount b _ _ _ (failS 42 s') most (by have := (hok'.fail 42).n; omega) (hok'.fail 42).v (hok'.fail 42).s w3 h3).mono ?_
        rintro e w4 ⟨rfl, h4, hb4⟩
        simp only [push_cast, Nat.reduceBEq, Nat.reduceLeDiff, Nat.reduceAdd, size_mkS, h4.c7]
        refine ⟨fun hq => ?_, fun hq => ?_⟩
        · simp only [decide_eq_true_eq] at hq
          refine (rfail b _ _ _ _ 10 w4 h4).mono ?_
          rintro e w5 ⟨rfl, h5, hb5⟩
          simp only [push_cast, Nat.reduceBEq, Nat.reduceLeDiff, Nat.reduceAdd, size_mkS, h5.c7, h5.c5, h5.f]
          exact hR _ _ ⟨rfl, ⟨_, _, by rw [hfu, tailR, if_neg (by simp), tail3, if_pos ht, tail4, if_pos hq]; exact h5.set5 _⟩, ((((hb1).trans hb3).trans hb4).trans hb5).setCell (p := ⟨b, 5, none⟩) (Nat.le_refl _) _⟩
        · simp only [decide_eq_false_iff_not] at hq
          simp only [push_cast, Nat.reduceBEq, Nat.reduceLeDiff, Nat.reduceAdd, size_mkS, h4.c7, h4.c5, h4.f]
          exact hR _ _ ⟨rfl, ⟨_, _, by rw [hfu, tailR, if_neg (by simp), tail3, if_pos ht, tail4, if_neg hq]; exact h4.set5 _⟩, (((hb1).trans hb3).trans hb4).setCell (p := ⟨b, 5, none⟩) (Nat.le_refl _) _⟩
      · simp only [decide_eq_false_iff_not] at ht
        refine (rcount b _ _ _ s' most (by have := hok'.n; omega) hok'.v hok'.s w1 h1).mono ?_
        rintro e w4 ⟨rfl, h4, hb4⟩
        simp only [push_cast, Nat.reduceBEq, Nat.reduceLeDiff, Nat.reduceAdd, size_mkS, h4.c7]
        refine ⟨fun hq => ?_, fun hq => ?_⟩
        · simp only [decide_eq_true_eq] at hq
          refine (rfail b _ _ _ _ 10 w4 h4).mono ?_
          rintro e w5 ⟨rfl, h5, hb5⟩
          simp only [push_cast, Nat.reduceBEq, Nat.reduceLeDiff, Nat.reduceAdd, size_mkS, h5.c7, h5.c5, h5.f]
          exact hR _ _ ⟨rfl, ⟨_, _, by rw [hfu, tailR, if_neg (by simp), tail3, if_neg ht, tail4, if_pos hq]; exact h5.set5 _⟩, (((hb1).trans hb4).trans hb5).setCell (p := ⟨b, 5, none⟩) (Nat.le_refl _) _⟩
        · simp only [decide_eq_false_iff_not] at hq
          simp only [push_cast, Nat.reduceBEq, Nat.reduceLeDiff, Nat.reduceAdd, size_mkS, h4.c7, h4.c5, h4.f]
          exact hR _ _ ⟨rfl, ⟨_, _, by rw [hfu, tailR, if_neg (by simp), tail3, if_neg ht, tail4, if_neg hq]; exact h4.set5 _⟩, ((hb1).trans hb4).setCell (p := ⟨b, 5, none⟩) (Nat.le_refl _) _⟩
    | true =>
      simp only [push_cast, Nat.reduceBEq, Nat.reduceLeDiff, Nat.reduceAdd, size_mkS, Bool.true_and]
      refine (rhas b _ _ _ s' (mkS hostB) (by have := hok'.n; omega) w1 h1).mono ?_
      rintro e w' ⟨rfl, rfl⟩
      rw [toL_mkS]
      simp only [push_cast, Nat.reduceBEq, Nat.reduceLeDiff, Nat.reduceAdd, size_mkS, Bool.true_and]
      refine ⟨fun hh => ?_, fun hh => ?_⟩
      · simp only [decide_eq_true_eq] at hh
        refine (rfail b _ _ _ _ 10 w1 h1).mono ?_
        rintro e w2 ⟨rfl, h2, hb2⟩
        simp only [push_cast, Nat.reduceBEq, Nat.reduceLeDiff, Nat.reduceAdd, size_mkS]
        refine (rhas b _ _ _ (failS 10 s') (mkS tenc) (by have := (hok'.fail 10).n; omega) w2 h2).mono ?_
        rintro e w' ⟨rfl, rfl⟩
        rw [toL_mkS]
        simp only [push_cast, Nat.reduceBEq, Nat.reduceLeDiff, Nat.reduceAdd, size_mkS]
        refine ⟨fun ht => ?_, fun ht => ?_⟩
        · simp only [decide_eq_true_eq] at ht
          refine (rfail b _ _ _ _ 42 w2 h2).mono ?_
          rintro e w3 ⟨rfl, h3, hb3⟩
          simp only [push_cast, Nat.reduceBEq, Nat.reduceLeDiff, Nat.reduceAdd, size_mkS]
          refine (rcount b _ _ _ (failS 42 (failS 10 s')) most (by have := ((hok'.fail 10).fail 42).n; omega) ((hok'.fail 10).fail 42).v ((hok'.fail 10).fail 42).s w3 h3).mono ?_
          rintro e w4 ⟨rfl, h4, hb4⟩
          simp only [push_cast, Nat.reduceBEq, Nat.reduceLeDiff, Nat.reduceAdd, size_mkS, h4.c7]
          refine ⟨fun hq => ?_, fun hq => ?_⟩
          · simp only [decide_eq_true_eq] at hq
            refine (rfail b _ _ _ _ 10 w4 h4).mono ?_
            rintro e w5 ⟨rfl, h5, hb5⟩
            simp only [push_cast, Nat.reduceBEq, Nat.reduceLeDiff, Nat.reduceAdd, size_mkS, h5.c7, h5.c5, h5.f]
            exact hR _ _ ⟨rfl, ⟨_, _, by rw [hfu, tailR, if_pos ⟨rfl, hh⟩, tail3, if_pos ht, tail4, if_pos hq]; exact h5.set5 _⟩, (((((hb1).trans hb2).trans hb3).trans hb4).trans hb5).setCell (p := ⟨b, 5, none⟩) (Nat.le_refl _) _⟩
          · simp only [decide_eq_false_iff_not] at hq
            simp only [push_cast, Nat.reduceBEq, Nat.reduceLeDiff, Nat.reduceAdd, size_mkS, h4.c7, h4.c5, h4.f]
            exact hR _ _ ⟨rfl, ⟨_, _, by rw [hfu, tailR, if_pos ⟨rfl, hh⟩, tail3, if_pos ht, tail4, if_neg hq]; exact h4.set5 _⟩, ((((hb1).trans hb2).trans hb3).trans hb4).setCell (p := ⟨b, 5, none⟩) (Nat.le_refl _) _⟩
        · simp only [decide_eq_false_iff_not] at ht
          refine (rcount b _ _ _ (failS 10 s') most (by have := (hok'.fail 10).n; omega) (hok'.fail 10).v (hok'.fail 10).s w2 h2).mono ?_
          rintro e w4 ⟨rfl, h4, hb4⟩
          simp only [push_cast, Nat.reduceBEq, Nat.reduceLeDiff, Nat.reduceAdd, size_mkS, h4.c7]
          refine ⟨fun hq => ?_, fun hq => ?_⟩
          · simp only [decide_eq_true_eq] at hq
            refine (rfail b _ _ _ _ 10 w4 h4).mono ?_
            rintro e w5 ⟨rfl, h5, hb5⟩
            simp only [push_cast, Nat.reduceBEq, Nat.reduceLeDiff, Nat.reduceAdd, size_mkS, h5.c7, h5.c5, h5.f]
            exact hR _ _ ⟨rfl, ⟨_, _, by rw [hfu, tailR, if_pos ⟨rfl, hh⟩, tail3, if_neg ht, tail4, if_pos hq]; exact h5.set5 _⟩, ((((hb1).trans hb2).trans hb4).trans hb5).setCell (p := ⟨b, 5, none⟩) (Nat.le_refl _) _⟩
          · simp only [decide_eq_false_iff_not] at hq
            simp only [push_cast, Nat.reduceBEq, Nat.reduceLeDiff, Nat.reduceAdd, size_mkS, h4.c7, h4.c5, h4.f]
            exact hR _ _ ⟨rfl, ⟨_, _, by rw [hfu, tailR, if_pos ⟨rfl, hh⟩, tail3, if_neg ht, tail4, if_neg hq]; exact h4.set5 _⟩, (((hb1).trans hb2).trans hb4).setCell (p := ⟨b, 5, none⟩) (Nat.le_refl _) _⟩
      · simp only [decide_eq_false_iff_not] at hh
        refine (rhas b _ _ _ s' (mkS tenc) (by have := hok'.n; omega) w1 h1).mono ?_
        rintro e w' ⟨rfl, rfl⟩
        rw [toL_mkS]
        simp only [push_cast, Nat.reduceBEq, Nat.reduceLeDiff, Nat.reduceAdd, size_mkS]
        refine ⟨fun ht => ?_, fun ht => ?_⟩
        · simp only [decide_eq_true_eq] at ht
          refine (rfail b _ _ _ _ 42 w1 h1).mono ?_
          rintro e w3 ⟨rfl, h3, hb3⟩
          simp only [push_cast, Nat.reduceBEq, Nat.reduceLeDiff, Nat.reduceAdd, size_mkS]
          refine (rcount b _ _ _ (failS 42 s') most (by have := (hok'.fail 42).n; omega) (hok'.fail 42).v (hok'.fail 42).s w3 h3).mono ?_
          rintro e w4 ⟨rfl, h4, hb4⟩
          simp only [push_cast, Nat.reduceBEq, Nat.reduceLeDiff, Nat.reduceAdd, size_mkS, h4.c7]
          refine ⟨fun hq => ?_, fun hq => ?_⟩
          · simp only [decide_eq_true_eq] at hq
            refine (rfail b _ _ _ _ 10 w4 h4).mono ?_
            rintro e w5 ⟨rfl, h5, hb5⟩
            simp only [push_cast, Nat.reduceBEq, Nat.reduceLeDiff, Nat.reduceAdd, size_mkS, h5.c7, h5.c5, h5.f]
            exact hR _ _ ⟨rfl, ⟨_, _, by rw [hfu, tailR, if_neg (fun x => hh x.2), tail3, if_pos ht, tail4, if_pos hq]; exact h5.set5 _⟩, ((((hb1).trans hb3).trans hb4).trans hb5).setCell (p := ⟨b, 5, none⟩) (Nat.le_refl _) _⟩
          · simp only [decide_eq_false_iff_not] at hq
            simp only [push_cast, Nat.reduceBEq, Nat.reduceLeDiff, Nat.reduceAdd, size_mkS, h4.c7, h4.c5, h4.f]
            exact hR _ _ ⟨rfl, ⟨_, _, by rw [hfu, tailR, if_neg (fun x => hh x.2), tail3, if_pos ht, tail4, if_neg hq]; exact h4.set5 _⟩, (((hb1).trans hb3).trans hb4).setCell (p := ⟨b, 5, none⟩) (Nat.le_refl _) _⟩
        · simp only [decide_eq_false_iff_not] at ht
          refine (rcount b _ _ _ s' most (by have := hok'.n; omega) hok'.v hok'.s w1 h1).mono ?_
          rintro e w4 ⟨rfl, h4, hb4⟩
          simp only [push_cast, Nat.reduceBEq, Nat.reduceLeDiff, Nat.reduceAdd, size_mkS, h4.c7]
          refine ⟨fun hq => ?_, fun hq => ?_⟩
          · simp only [decide_eq_true_eq] at hq
            refine (rfail b _ _ _ _ 10 w4 h4).mono ?_
            rintro e w5 ⟨rfl, h5, hb5⟩
            simp only [push_cast, Nat.reduceBEq, Nat.reduceLeDiff, Nat.reduceAdd, size_mkS, h5.c7, h5.c5, h5.f]
            exact hR _ _ ⟨rfl, ⟨_, _, by rw [hfu, tailR, if_neg (fun x => hh x.2), tail3, if_neg ht, tail4, if_pos hq]; exact h5.set5 _⟩, (((hb1).trans hb4).trans hb5).setCell (p := ⟨b, 5, none⟩) (Nat.le_refl _) _⟩
          · simp only [decide_eq_false_iff_not] at hq
            simp only [push_cast, Nat.reduceBEq, Nat.reduceLeDiff, Nat.reduceAdd, size_mkS, h4.c7, h4.c5, h4.f]
            exact hR _ _ ⟨rfl, ⟨_, _, by rw [hfu, tailR, if_neg (fun x => hh x.2), tail3, if_neg ht, tail4, if_neg hq]; exact h4.set5 _⟩, ((hb1).trans hb4).setCell (p := ⟨b, 5, none⟩) (Nat.le_refl _) _⟩
end Go.Proofs.YtciepffocobgpaaGreatDoor
namespace Go.Proofs.YtciepffocobgpaaGreatDoor
open Go Go.Sx Go.RowKit
set_option linter.unusedSimpArgs false
set_option linter.unusedVariables false
def initS (l : Bytes) : RS := ⟨[], [], [], [], [], [], 0, l⟩
def parse1 (s1 : RS) (l1 : Bytes) : RS := if s1.e = 0 then rfirstS s1 l1 else s1
def parse2 (s2 : RS) : RS := if s2.e = 0 then tailS true 8192 s2 else s2
/-- What the reference says of a request. -/
def parseS (l : Bytes) : RS := if 16384 < l.length then failS 11 (initS l) else parse2 (parse1 (lineS (initS l)).2 (lineS (initS l)).1)
theorem failS_keeps (e : Int) (s : RS) : (failS e s).ns = s.ns ∧ (failS e s).vs = s.vs ∧ (failS e s).r = s.r := by unfold failS; split <;> exact ⟨rfl, rfl, rfl⟩
theorem rfirstS_keeps (s : RS) (l : Bytes) : (rfirstS s l).ns = s.ns ∧ (rfirstS s l).vs = s.vs ∧ (rfirstS s l).r = s.r := by
  unfold rfirstS
  split
  · split
    · split
      · unfold rtargetS
        split
        · split
          · split
            · exact ⟨rfl, rfl, rfl⟩
            · split
              · exact ⟨rfl, rfl, rfl⟩
              · exact failS_keeps _ _
          · exact failS_keeps _ _
        · exact failS_keeps _ _
      · exact failS_keeps _ _
    · exact failS_keeps _ _
  · exact failS_keeps _ _
theorem RSok.first {s : RS} (h : RSok s) (l : Bytes) : RSok (rfirstS s l) := by
  obtain ⟨h1, h2, h3⟩ := rfirstS_keeps s l
  exact ⟨by rw [h1]; exact h.n, by rw [h1, h2]; exact h.v, by rw [h3]; exact h.r, by rw [h2]; exact h.s⟩
theorem bld36 (a : ByteArray) (w : World) : Sem.run Tryz.prog (Instr.build 36 #[(7, .string a)]) w = .ok (.agg #[.string ⟨#[]⟩, .string ⟨#[]⟩, .slice none 0 0, .slice none 0 0, .slice none 0 0, .string ⟨#[]⟩, .int .i64 0, .string a]) w := by kernel_rfl
abbrev cells36 (l : Bytes) : List Value := [.string ⟨#[]⟩, .string ⟨#[]⟩, .slice none 0 0, .slice none 0 0, .slice none 0 0, .string ⟨#[]⟩, .int .i64 0, .string (mkS l)]
theorem rblk_init (w : World) (l : Bytes) : RBlk (al w [(cells36 l, 36)]) w.heap.size (.slice none 0 0) (.slice none 0 0) (.slice none 0 0) (initS l) :=
  ⟨al_cell0 .., al_cell0 .., al_cell0 .., al_cell0 .., al_cell0 .., al_cell0 .., al_cell0 .., al_cell0 .., fun i => al_frz0 .., by rw [al_size]; exact Nat.lt_succ_self _, .inl ⟨0, rfl, rfl⟩, trivial, ⟨rfl, .inl ⟨rfl, rfl⟩⟩, ⟨rfl, .inl ⟨rfl, rfl⟩⟩, .inl rfl, .inl rfl⟩
theorem rParse (l : Bytes) (w : World) :
    Calls Tryz.prog 11 #[.string (mkS l)] w fun r w' => r = .returned (.pointer (some ⟨w.heap.size, 0, none⟩)) ∧ (∃ v2 v3 v4, RBlk w' w.heap.size v2 v3 v4 (parseS l)) ∧ Below w.heap.size w w' := by
  refine calls_X Tryz.func11 rfl Tryz.ntmps11 Tryz.results11 rfl rfl (by kernel_rfl) fun R hR => ?_
  simp only [push_cast, Nat.reduceBEq, Nat.reduceLeDiff, Nat.reduceAdd, bld36, size_mkS]
  have h0 := rblk_init w l
  have hb0 : Below w.heap.size w (al w [(cells36 l, 36)]) := al_below _ _
  simp only [cells36] at h0 hb0
  generalize al w [([.string ⟨#[]⟩, .string ⟨#[]⟩, .slice none 0 0, .slice none 0 0, .slice none 0 0, .string ⟨#[]⟩, .int .i64 0, .string (mkS l)], 36)] = w0 at h0 hb0 ⊢
  generalize w.heap.size = b at *
  unfold parseS at hR
  refine ⟨fun hl => ?_, fun hl => ?_⟩
  · simp only [decide_eq_true_eq] at hl
    rw [if_pos (by omega)] at hR
    refine (rfail b _ _ _ _ 11 w0 h0).mono ?_
    rintro e w1 ⟨rfl, h1, hb1⟩
    simp only [push_cast, Nat.reduceBEq, Nat.reduceLeDiff, Nat.reduceAdd]
    exact hR _ _ ⟨rfl, ⟨_, _, _, h1⟩, hb0.trans hb1⟩
  simp only [decide_eq_false_iff_not] at hl
  rw [if_neg (by omega)] at hR
  have ok0 : RSok (initS l) := ⟨by simp [initS], rfl, by simp only [initS]; omega, by simp [initS]⟩
  refine (rline b _ _ _ (initS l) (by simp only [initS]; omega) w0 h0).mono ?_
  rintro e w1 ⟨rfl, h1, hb1⟩
  obtain ⟨ok1, hll, _⟩ := ok0.line
  have hb01 := hb0.trans hb1
  generalize (lineS (initS l)).2 = s1 at *
  generalize (lineS (initS l)).1 = l1 at *
  simp only [push_cast, Nat.reduceBEq, Nat.reduceLeDiff, Nat.reduceAdd, h1.c6]
  unfold parse1 at hR
  refine ⟨fun he => ?_, fun he => ?_⟩
  · simp only [decide_eq_true_eq] at he
    rw [if_pos he] at hR
    refine (rfirst b _ _ _ s1 l1 hll w1 h1).mono ?_
    rintro e w2 ⟨rfl, ⟨v2', h2⟩, hb2⟩
    have ok2 := ok1.first l1
    have hb02 := hb01.trans hb2
    generalize rfirstS s1 l1 = s2 at *
    simp only [push_cast, Nat.reduceBEq, Nat.reduceLeDiff, Nat.reduceAdd, h2.c6]
    unfold parse2 at hR
    refine ⟨fun he2 => ?_, fun he2 => ?_⟩
    · simp only [decide_eq_true_eq] at he2
      rw [if_pos he2] at hR
      refine (rtail b _ _ _ s2 true 8192 ok2 w2 h2).mono ?_
      rintro e w3 ⟨rfl, ⟨v3', v4', h3⟩, hb3⟩
      simp only [push_cast, Nat.reduceBEq, Nat.reduceLeDiff, Nat.reduceAdd]
      exact hR _ _ ⟨rfl, ⟨_, _, _, h3⟩, hb02.trans hb3⟩
    · simp only [decide_eq_false_iff_not] at he2
      rw [if_neg he2] at hR
      exact hR _ _ ⟨rfl, ⟨_, _, _, h2⟩, hb02⟩
  · simp only [decide_eq_false_iff_not] at he
    rw [if_neg he] at hR
    unfold parse2 at hR
    rw [if_neg he] at hR
    have qe : decide (s1.e = 0) = false := decide_eq_false he
    simp only [push_cast, qe]
    exact hR _ _ ⟨rfl, ⟨_, _, _, h1⟩, hb01⟩
end Go.Proofs.YtciepffocobgpaaGreatDoor
namespace Go.Proofs.YtciepffocobgpaaGreatDoor
open Go Go.Sx
set_option linter.unusedSimpArgs false
set_option linter.unusedVariables false
/-! The plain law: what the program computes of a request, and what the reference does. -/
theorem ofB_inOk (chars more : Bytes) (small digit : Bool) (most : Int) (h : ∀ c, chars.contains c = (okcr small digit c.toNat || more.contains c)) (l : Bytes) : ofB chars most l = inOk small digit more most l := by
  unfold ofB inOk inBr
  simp only [h]
  rw [Bool.and_comm]
  congr 2
  rcases l with _ | ⟨x, r⟩
  · rfl
  · simp; omega
theorem name_c (c : UInt8) : nameC.contains c = (okcr true true c.toNat || ([45] : Bytes).contains c) := by
  have := byte_all (fun c => nameC.contains c == (okcr true true c.toNat || ([45] : Bytes).contains c)) (by kernel_rfl) c
  simpa using this
theorem up_c (c : UInt8) : upC.contains c = (okcr false false c.toNat || ([] : Bytes).contains c) := by
  have := byte_all (fun c => upC.contains c == (okcr false false c.toNat || ([] : Bytes).contains c)) (by kernel_rfl) c
  simpa using this
theorem path_c (c : UInt8) : pathC.contains c = (okcr true true c.toNat || pathC2.contains c) := by
  have := byte_all (fun c => pathC.contains c == (okcr true true c.toNat || pathC2.contains c)) (by kernel_rfl) c
  simpa using this
theorem dig_c (c : UInt8) : digC.contains c = isD c := by
  have := byte_all (fun c => digC.contains c == isD c) (by kernel_rfl) c
  simpa using this
theorem trR_cons (x : UInt8) (r : Bytes) : Lib.trimRightB (x :: r) 32 = if Lib.trimRightB r 32 = [] then (if x = 32 then [] else [x]) else x :: Lib.trimRightB r 32 := by
  unfold Lib.trimRightB
  rw [List.reverse_cons, List.dropWhile_append]
  by_cases h : (r.reverse.dropWhile (· == 32)) = []
  · rw [h]
    by_cases hx : x = 32 <;> simp [hx]
  · have : (r.reverse.dropWhile (· == 32)).isEmpty = false := by simpa using h
    rw [this]
    simp [h]
theorem trim_eq : ∀ (v : Bytes), Lib.trimB v 32 = Lib.trimRightB (Lib.trimLeftB v 32) 32
  | [] => rfl
  | x :: r => by
    have ih := trim_eq r
    unfold Lib.trimB at ih ⊢
    by_cases hx : x = 32
    · subst hx
      rw [tl_cons, ← ih, trR_cons]
      by_cases h : Lib.trimRightB r 32 = []
      · rw [if_pos h, if_pos rfl, h]
      · rw [if_neg h, tl_cons]
    · rw [tl_stop x r hx]
      have : Lib.trimRightB (x :: r) 32 = x :: Lib.trimRightB r 32 := by
        rw [trR_cons]
        split
        · rename_i h; rw [h]
        · rfl
      rw [this, tl_stop _ _ hx]
theorem failS_e0 {s : RS} (h : s.e = 0) (e : Int) : failS e s = { s with e := e } := by rw [failS, if_pos h]
theorem failE {s : RS} (h : s.e = 0) (e : Int) : (failS e s).e = e := by rw [failS_e0 h]
theorem failS_ne {s : RS} (h : s.e ≠ 0) (e : Int) : failS e s = s := by rw [failS, if_neg h]
theorem hasI_getP : ∀ (ps : List Pr) (n : Bytes) (i : Nat), (getP ps n = none ∧ hasI (ps.map Prod.fst) n i = -1) ∨ (∃ k p, hasI (ps.map Prod.fst) n i = ((i + k : Nat) : Int) ∧ ps[k]? = some p ∧ getP ps n = some p.2)
  | [], _, _ => .inl ⟨rfl, rfl⟩
  | x :: r, n, i => by
    rw [List.map_cons, hasI, getP, List.find?_cons]
    by_cases h : x.1 = n
    · rw [if_pos h, show (x.1 == n) = true from by simpa using h]
      exact .inr ⟨0, x, rfl, rfl, rfl⟩
    · rw [if_neg h, show (x.1 == n) = false from by simpa using h]
      rcases hasI_getP r n (i + 1) with ⟨h1, h2⟩ | ⟨k, p, h1, h2, h3⟩
      · exact .inl ⟨h1, h2⟩
      · exact .inr ⟨k + 1, p, by rw [h1]; congr 1; omega, h2, h3⟩
theorem hasI_some (ps : List Pr) (n : Bytes) : (0 ≤ hasI (ps.map Prod.fst) n 0) ↔ (getP ps n).isSome = true := by
  rcases hasI_getP ps n 0 with ⟨h1, h2⟩ | ⟨k, p, h1, h2, h3⟩
  · rw [h1, h2]; simp
  · rw [h1, h3]; simp
theorem hdrS_eq (l : Bytes) : hdrS l = match cut1 58 l with
    | none => none
    | some (n, v) => if inOk true true [45] 40 n = true then if shownB v = true then some (Lib.toLowerA n, Lib.trimRightB (Lib.trimLeftB v 32) 32) else none else none := by
  unfold hdrS
  cases cut1 58 l with
  | none => rfl
  | some p =>
    obtain ⟨n, v⟩ := p
    simp only
    rw [ofB_inOk nameC [45] true true 40 name_c, trim_eq]
theorem header_law (s : RS) (acc : List Pr) (l : Bytes) (h0 : s.e = 0) (hn : s.ns = acc.map Prod.fst) (hv : s.vs = acc.map Prod.snd) :
    rheaderS s l = if ¬ acc.length < 32 then failS 14 s else match hdrS l with
      | none => failS 31 s
      | some h => if (getP acc h.1).isSome then failS 15 s else { s with ns := (acc ++ [h]).map Prod.fst, vs := (acc ++ [h]).map Prod.snd } := by
  have hl : s.ns.length = acc.length := by rw [hn, List.length_map]
  rw [rheaderS, hdrS_eq]
  by_cases h32 : 32 ≤ s.ns.length
  · rw [if_pos h32, if_pos (by omega)]
  rw [if_neg h32, if_neg (by omega)]
  cases cut1 58 l with
  | none => rfl
  | some p =>
    obtain ⟨n, v⟩ := p
    simp only
    split
    · split
      · simp only
        by_cases hh : 0 ≤ hasI s.ns (Lib.toLowerA n) 0
        · rw [if_pos hh, if_pos ((hasI_some acc _).1 (by rw [← hn]; exact hh))]
        · rw [if_neg hh, if_neg (fun h => hh (by rw [hn]; exact (hasI_some acc _).2 h)), hn, hv]; simp
      · rfl
    · rfl
theorem loop_ne (f : Nat) (s : RS) (h : s.e ≠ 0) : hdrLoopS f s = s := by
  cases f with
  | zero => rfl
  | succ f => rw [hdrLoopS, if_neg h]
theorem loop_law : ∀ (f : Nat) (acc : List Pr) (s : RS), s.e = 0 → s.ns = acc.map Prod.fst → s.vs = acc.map Prod.snd → s.r.length < f →
    match hdrsS f acc s.r with
    | .error e => (hdrLoopS f s).e = e ∧ e ≠ 0
    | .ok (h, rest) => hdrLoopS f s = { s with ns := h.map Prod.fst, vs := h.map Prod.snd, r := rest }
  | 0, _, _, _, _, _, h => by omega
  | f + 1, acc, s, h0, hn, hv, hf => by
    rw [hdrsS, hdrLoopS, if_pos h0, lineS]
    cases hc : cutLine s.r with
    | none => simp only [if_true, failS_e0 h0]; exact ⟨trivial, by decide⟩
    | some p =>
      obtain ⟨l, rest⟩ := p
      have hlen := cutLine_len hc
      simp only
      by_cases hl : l = []
      · rw [if_pos hl, if_pos hl]
        simp only [hn, hv]
      rw [if_neg hl, if_neg hl, header_law { s with r := rest } acc l h0 hn hv]
      by_cases h32 : ¬ acc.length < 32
      · rw [if_pos h32, if_pos h32]
        have hne : (failS 14 { s with r := rest }).e = 14 := failE (s := { s with r := rest }) h0 14
        rw [loop_ne _ _ (by rw [hne]; decide)]
        exact ⟨hne, by decide⟩
      rw [if_neg h32, if_neg h32]
      cases hdrS l with
      | none =>
        have hne : (failS 31 { s with r := rest }).e = 31 := failE (s := { s with r := rest }) h0 31
        simp only
        rw [loop_ne _ _ (by rw [hne]; decide)]
        exact ⟨hne, by decide⟩
      | some h =>
        simp only
        by_cases hd : (getP acc h.1).isSome = true
        · rw [if_pos hd, if_pos hd]
          have hne : (failS 15 { s with r := rest }).e = 15 := failE (s := { s with r := rest }) h0 15
          rw [loop_ne _ _ (by rw [hne]; decide)]
          exact ⟨hne, by decide⟩
        · rw [if_neg hd, if_neg hd]
          have ih := loop_law f (acc ++ [h]) { s with r := rest, ns := (acc ++ [h]).map Prod.fst, vs := (acc ++ [h]).map Prod.snd } h0 rfl rfl (by show rest.length < f; omega)
          exact ih
theorem count_law (s : RS) (h : List Pr) (most : Int) (h0 : s.e = 0) (hn : s.ns = h.map Prod.fst) (hv : s.vs = h.map Prod.snd) :
    match countS h most with
    | .error e => (rcountS s most).2.e = e ∧ e ≠ 0
    | .ok n => rcountS s most = (n, s) := by
  unfold countS rcountS
  rw [hn]
  rcases hasI_getP h clen 0 with ⟨h1, h2⟩ | ⟨k, p, h1, h2, h3⟩
  · rw [h1, h2]; rfl
  rw [h1, h3, if_neg (by omega)]
  have hk : s.vs[((0 + k : Nat) : Int).toNat]? = some p.2 := by
    rw [hv, Int.toNat_natCast, Nat.zero_add, List.getElem?_map, h2]; rfl
  rw [hk]
  simp only
  generalize p.2 = v
  have hof : ofB digC 6 v = ((!v.isEmpty && decide ((v.length : Int) ≤ 6)) && v.all isD) := by
    unfold ofB; simp only [dig_c]
  rw [hof]
  by_cases hb : ((!v.isEmpty && decide ((v.length : Int) ≤ 6)) && v.all isD) = true
  · rw [if_pos hb]
    simp only [Bool.and_eq_true, decide_eq_true_eq, Bool.not_eq_true'] at hb
    obtain ⟨⟨hne, hl6⟩, hall⟩ := hb
    rw [List.take_of_length_le (by omega), if_pos hall]
    have hl1 : 1 ≤ v.length := by
      rcases v with _ | ⟨x, r⟩
      · simp at hne
      · simp
    have hiff : (v.length < 1 ∨ 6 < v.length ∨ (v.head? = some 48 ∧ 1 < v.length)) ↔ ¬ (v = [48] ∨ v.head? ≠ some 48) := by
      rcases v with _ | ⟨x, _ | ⟨y, r⟩⟩
      · simp at hl1
      · simp
      · simp at hl6 ⊢; omega
    by_cases hg : v = [48] ∨ v.head? ≠ some 48
    · rw [if_pos hg]
      have hnb : ¬ ¬ (v = [48] ∨ v.head? ≠ some 48) := fun h => h hg
      simp only [hiff, if_neg hnb]
      by_cases hm : (decN v : Int) ≤ most
      · rw [if_pos hm, if_neg (by omega)]
      · rw [if_neg hm, if_pos (by omega), failS_e0 h0]; exact ⟨rfl, by decide⟩
    · rw [if_neg hg]
      simp only [hiff]
      rw [if_pos hg]
      have e31 : (failS 31 s).e = 31 := by rw [failS_e0 h0]
      split
      · rw [failS_ne (by rw [e31]; decide)]; exact ⟨e31, by decide⟩
      · exact ⟨e31, by decide⟩
  · rw [if_neg hb]
    have e31 : (failS 31 s).e = 31 := by rw [failS_e0 h0]
    by_cases hall : (v.take 7).all isD = true
    · rw [if_pos hall]
      have : v.length < 1 ∨ 6 < v.length ∨ (v.head? = some 48 ∧ 1 < v.length) := by
        by_cases h1 : v.length < 1
        · exact .inl h1
        by_cases h6 : 6 < v.length
        · exact .inr (.inl h6)
        exfalso
        apply hb
        rw [List.take_of_length_le (by omega)] at hall
        rw [hall]
        rcases v with _ | ⟨x, r⟩
        · simp at h1
        · simp at h6 ⊢; omega
      simp only [this, if_true]
      split
      · rw [failS_ne (by rw [e31]; decide)]; exact ⟨e31, by decide⟩
      · exact ⟨e31, by decide⟩
    · rw [if_neg hall]; exact ⟨e31, by decide⟩
theorem count_ne (s : RS) (most : Int) (h : s.e ≠ 0) : (rcountS s most).2 = s := by
  unfold rcountS
  split
  · rfl
  · split
    · rfl
    · split
      · simp only [failS_ne h]; split <;> split <;> first | rfl | exact failS_ne h _
      · exact failS_ne h _
theorem tail_ne (host : Bool) (most : Int) (s : RS) (h : s.e ≠ 0) : (tailR host most s).e = s.e := by
  unfold tailR tail3 tail4
  simp only [failS_ne h, ite_self, count_ne s most h]
theorem body_law (s : RS) (h : List Pr) (most : Int) (h0 : s.e = 0) (hn : s.ns = h.map Prod.fst) (hv : s.vs = h.map Prod.snd) :
    match bodyS h s.r most with
    | .error e => (tail3 most s).e = e ∧ e ≠ 0
    | .ok b => b = s.r ∧ tail3 most s = { s with b := s.r } := by
  unfold bodyS tail3
  by_cases ht : (getP h tenc).isSome = true
  · rw [if_pos ht, if_pos (by rw [hn]; exact (hasI_some h tenc).2 ht)]
    have e42 : (failS 42 s).e = 42 := by rw [failS_e0 h0]
    unfold tail4
    have e42' : (failS 42 s).e ≠ 0 := by rw [e42]; decide
    simp only [count_ne _ most e42', failS_ne e42', ite_self]
    exact ⟨e42, by decide⟩
  · rw [if_neg ht, if_neg (fun x => ht ((hasI_some h tenc).1 (by rw [← hn]; exact x)))]
    have hc := count_law s h most h0 hn hv
    cases hcs : countS h most with
    | error e =>
      rw [hcs] at hc
      obtain ⟨h1, h2⟩ := hc
      unfold tail4
      have hne : (rcountS s most).2.e ≠ 0 := by rw [h1]; exact h2
      simp only [failS_ne hne, ite_self]
      exact ⟨h1, h2⟩
    | ok n =>
      rw [hcs] at hc
      simp only at hc ⊢
      rw [hc]
      unfold tail4
      simp only
      by_cases hq : n = s.r.length
      · rw [if_pos hq, if_neg (fun h => h hq)]; exact ⟨rfl, rfl⟩
      · rw [if_neg hq, if_pos hq, failS_e0 h0]; exact ⟨rfl, by decide⟩
theorem target_law (s : RS) (t : Bytes) (h0 : s.e = 0) (hq : s.q = []) :
    match targetS t with
    | .error e => (rtargetS { s with p := (pathQ t).1 } (pathQ t)).e = e ∧ e ≠ 0
    | .ok (p, q) => rtargetS { s with p := (pathQ t).1 } (pathQ t) = { s with p := p, q := q } := by
  have e31 : ∀ x : Bytes, (failS 31 { s with p := x }).e = 31 := fun x => failE (s := { s with p := x }) h0 31
  have hT : targetS t = if (pathQ t).1.head? = some 47 then
    if ofB pathC 100 (pathQ t).1 = true then
      match (pathQ t).2 with
      | none => .ok ((pathQ t).1, [])
      | some q => match form q with
        | .error e => .error e
        | .ok l => .ok ((pathQ t).1, l)
    else .error 31
  else .error 31 := rfl
  rw [hT, ofB_inOk pathC pathC2 true true 100 path_c]
  generalize pathQ t = pq
  unfold rtargetS
  by_cases h1 : pq.1.head? = some 47
  · rw [if_pos h1, if_pos h1]
    by_cases h2 : inOk true true pathC2 100 pq.1 = true
    · rw [if_pos h2, if_pos h2]
      cases pq.2 with
      | none => simp only [hq]
      | some q =>
        simp only
        cases hf : form q with
        | error e => exact ⟨failE (s := { s with p := pq.1, q := [] }) h0 e, form_err hf⟩
        | ok l => rfl
    · rw [if_neg h2, if_neg h2]; exact ⟨e31 _, by decide⟩
  · rw [if_neg h1]
    by_cases h2 : inOk true true pathC2 100 pq.1 = true
    · rw [if_pos h2, if_neg h1]; exact ⟨e31 _, by decide⟩
    · rw [if_neg h2]; exact ⟨e31 _, by decide⟩
theorem first_law (s : RS) (l : Bytes) (h0 : s.e = 0) (hq : s.q = []) :
    match firstS l with
    | .error e => (rfirstS s l).e = e ∧ e ≠ 0
    | .ok (m, p, q) => rfirstS s l = { s with m := m, p := p, q := q } := by
  have e31 : (failS 31 s).e = 31 := by rw [failS_e0 h0]
  unfold firstS rfirstS
  rcases hp : parts 32 l with _ | ⟨m, _ | ⟨t, _ | ⟨v, _ | ⟨x, r⟩⟩⟩⟩
  case cons.cons.cons.nil =>
    simp only
    rw [ofB_inOk upC [] false false 10 up_c]
    by_cases hi : inOk false false [] 10 m = true
    · rw [if_pos hi, if_pos hi]
      by_cases hv : v = version
      · rw [if_pos hv, if_pos hv]
        have ht := target_law { s with m := m } t h0 hq
        cases htt : targetS t with
        | error e => rw [htt] at ht; exact ht
        | ok pq =>
          obtain ⟨p, q⟩ := pq
          rw [htt] at ht; exact ht
      · rw [if_neg hv, if_neg hv]; exact ⟨e31, by decide⟩
    · rw [if_neg hi, if_neg hi]; exact ⟨e31, by decide⟩
  all_goals exact ⟨e31, by decide⟩
theorem parse_law (l : Bytes) :
    match reqS l with
    | .error e => (parseS l).e = e ∧ e ≠ 0
    | .ok r => parseS l = ⟨r.method, r.path, r.query, r.hdrs.map Prod.fst, r.hdrs.map Prod.snd, r.body, 0, r.body⟩ := by
  unfold reqS parseS
  by_cases hl : 16384 < l.length
  · rw [if_pos hl, if_pos hl]; exact ⟨rfl, by decide⟩
  rw [if_neg hl, if_neg hl, lineS]
  show match (match cutLine l with
      | none => (.error 31 : Except Int Req)
      | some (l, rest) => _) with
    | .error e => _
    | .ok r => _
  show _
  cases hc : cutLine l with
  | none =>
    have : cutLine (initS l).r = none := hc
    rw [this]
    exact ⟨rfl, by decide⟩
  | some p =>
    obtain ⟨a, rest⟩ := p
    have : cutLine (initS l).r = some (a, rest) := hc
    rw [this]
    simp only [parse1, parse2]
    rw [if_pos (show ({ initS l with r := rest } : RS).e = 0 from rfl)]
    have hf := first_law { initS l with r := rest } a rfl rfl
    cases hfs : firstS a with
    | error e =>
      rw [hfs] at hf
      obtain ⟨h1, h2⟩ := hf
      simp only
      rw [if_neg (by rw [h1]; exact h2)]
      exact ⟨h1, h2⟩
    | ok mpq =>
      obtain ⟨m, pp, q⟩ := mpq
      rw [hfs] at hf
      simp only at hf ⊢
      rw [hf, if_pos (show ({ initS l with r := rest, m := m, p := pp, q := q } : RS).e = 0 from rfl)]
      unfold tailS
      have hlp := loop_law (rest.length + 1) [] { initS l with r := rest, m := m, p := pp, q := q } rfl rfl rfl (Nat.lt_succ_self _)
      simp only at hlp ⊢
      cases hh : hdrsS (rest.length + 1) [] rest with
      | error e =>
        rw [hh] at hlp
        obtain ⟨h1, h2⟩ := hlp
        simp only
        rw [tail_ne _ _ _ (by rw [h1]; exact h2)]
        exact ⟨h1, h2⟩
      | ok hr =>
        obtain ⟨h, rest2⟩ := hr
        rw [hh] at hlp
        simp only at hlp ⊢
        rw [hlp]
        unfold tailR
        by_cases hhost : (getP h hostB).isSome = true
        · rw [if_pos hhost, if_neg (fun x => by have := (hasI_some h hostB).2 hhost; have := x.2; simp only at this; omega)]
          have hb := body_law { initS l with m := m, p := pp, q := q, ns := h.map Prod.fst, vs := h.map Prod.snd, r := rest2 } h 8192 rfl rfl rfl
          simp only at hb
          cases hbs : bodyS h rest2 8192 with
          | error e => rw [hbs] at hb; exact hb
          | ok bb =>
            rw [hbs] at hb
            obtain ⟨h1, h2⟩ := hb
            simp only
            rw [h2, h1]; rfl
        · have hneg : hasI (h.map Prod.fst) hostB 0 < 0 := by
            by_cases hx : 0 ≤ hasI (h.map Prod.fst) hostB 0
            · exact absurd ((hasI_some h hostB).1 hx) hhost
            · omega
          rw [if_neg hhost, if_pos ⟨rfl, hneg⟩]
          have e10 : (failS 10 ({ initS l with m := m, p := pp, q := q, ns := h.map Prod.fst, vs := h.map Prod.snd, r := rest2 } : RS)).e = 10 := rfl
          refine ⟨?_, by decide⟩
          have := tail_ne false 8192 (failS 10 ({ initS l with m := m, p := pp, q := q, ns := h.map Prod.fst, vs := h.map Prod.snd, r := rest2 } : RS)) (by rw [e10]; decide)
          unfold tailR at this
          rw [if_neg (by simp)] at this
          rw [e10] at this
          exact this
end Go.Proofs.YtciepffocobgpaaGreatDoor
