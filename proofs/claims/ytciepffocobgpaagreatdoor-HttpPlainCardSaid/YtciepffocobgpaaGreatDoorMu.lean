/- A request's bytes: what (Request).Bytes writes; the law HttpWrites, walked. -/
import Derived.Test.YtciepffocobgpaaGreatDoorMr
import Derived.Test.YtciepffocobgpaaGreatDoorMb
import Derived.Test.YtciepffocobgpaaGreatDoorMn
import Derived.Test.YtciepffocobgpaaGreatDoorMl
import Derived.Laws.StructEq
import Derived.Test.YtciepffocobgpaaGreatDoorMs
/-! A builder written whose buffer lies above what shall be kept. -/
namespace Go.Proofs.YtciepffocobgpaaGreatDoor
open Go Go.Sx Go.RowKit
set_option linter.unusedSimpArgs false
set_option linter.unusedVariables false
def BuX (B b : Nat) (p : Value) (bs : List Value) (w : World) : Prop := ∃ v, w.heap[b]? = some (.cells #[p, v] 105 (0, 0)) ∧ w.ownsRow B 5 1 v bs.length bs
def IsX (B b : Nat) (bs : List Value) (w : World) : Prop := BuX B b (.pointer none) bs w ∨ BuX B b (.pointer (some ⟨b, 0, none⟩)) bs w
def BelX (b B : Nat) (w w' : World) : Prop := Below b w w' ∧ ∀ k, k < B → k ≠ b → w'.heap[k]? = w.heap[k]?
theorem BelX.refl (b B : Nat) (w : World) : BelX b B w w := ⟨Below.refl _ _, fun _ _ _ => rfl⟩
theorem BelX.trans {b B : Nat} {w w' w'' : World} (h : BelX b B w w') (h' : BelX b B w' w'') : BelX b B w w'' := ⟨h.1.trans h'.1, fun k hk hb => (h'.2 k hk hb).trans (h.2 k hk hb)⟩
theorem BelX.below {b B : Nat} {w w' : World} (h : Below B w w') (hb : b ≤ B) : BelX b B w w' := ⟨h.mono hb, fun k hk _ => h.block k hk⟩
theorem BelX.drew {b B : Nat} {w w' : World} (h : BelX b B w w') : BelX b B w w'.drew := ⟨h.1.drew, h.2⟩
theorem ownRow_mono {w : World} {B B' e size n : Nat} {v : Value} {xs : List Value} (h : w.ownsRow B e size v n xs) (hb : B' ≤ B) : w.ownsRow B' e size v n xs := by
  refine ⟨h.1, ?_⟩
  rcases h.2 with hn | ⟨g, cap, cur, hv, hB, rest⟩
  · exact .inl hn
  · exact .inr ⟨g, cap, cur, hv, by omega, rest⟩
theorem ownRow_ne {w : World} {B e size n b : Nat} {v : Value} {xs : List Value} (h : w.ownsRow B e size v n xs) (hb : b < B) : v.ownBlock ≠ some b := by
  rcases h.2 with ⟨rfl, _⟩ | ⟨g, cap, cur, rfl, hB, _⟩
  · intro hh; cases hh
  · intro hh; cases hh; exact Nat.lt_irrefl _ (Nat.lt_of_lt_of_le hb hB)
theorem BuX.at {B b : Nat} {p : Value} {bs : List Value} {w : World} (h : BuX B b p bs w) (hb : b < B) : Lib.BuilderAt 105 5 b b p bs w := by
  obtain ⟨v, h1, h2⟩ := h
  exact ⟨Nat.le_refl _, v, h1, ownRow_mono h2 (Nat.le_of_lt hb), ownRow_ne h2 hb⟩
theorem IsX.is {B b : Nat} {bs : List Value} {w : World} (h : IsX B b bs w) (hb : b < B) : Lib.IsBuilder 105 5 b b bs w := h.elim (fun x => .inl (x.at hb)) (fun x => .inr (x.at hb))
theorem IsX.belX {B b : Nat} {bs : List Value} {w w' : World} (h : IsX B b bs w) (hb : Below w.heap.size w w') : IsX B b bs w' := by
  have key : ∀ p, BuX B b p bs w → BuX B b p bs w' := by
    rintro p ⟨v, h1, h2⟩
    have hlt := (Array.getElem?_eq_some_iff.1 h1).1
    exact ⟨v, (hb.block b hlt).trans h1, own_below h2 hb⟩
  exact h.elim (fun x => .inl (key _ x)) (fun x => .inr (key _ x))
theorem set_own {w : World} {B b o n : Nat} {v x : Value} {xs : List Value} (h : w.ownsRow B 5 1 v n xs) (hb : b < B) : (w.setCell ⟨b, o, none⟩ x).ownsRow B 5 1 v n xs :=
  h.kept (row := some b) ⟨rfl, rfl, rfl, by simp [World.setCell], fun k _ hk => Below.heap_setCell _ _ _ _ (fun e => hk (by simp [e]))⟩ (Or.inr (ownRow_ne h hb))
theorem BelX.set {b B o : Nat} {w w' : World} (h : BelX b B w w') (x : Value) : BelX b B w (w'.setCell ⟨b, o, none⟩ x) :=
  ⟨h.1.setCell (p := ⟨b, o, none⟩) (Nat.le_refl _) _, fun k hk hne => (Below.heap_setCell _ _ _ _ (fun e => hne (by simpa using e))).trans (h.2 k hk hne)⟩
theorem copyCheckX (B b : Nat) (bs : List Value) (w : World) (h : IsX B b bs w) (hbB : b < B) :
    Calls Tryz.prog 100 #[.pointer (some ⟨b, 0, none⟩)] w fun e w' => e = .returned (.tuple #[]) ∧ (BuX B b (.pointer (some ⟨b, 0, none⟩)) bs w' ∧ BelX b B w w' ∧ w'.heap.size = w.heap.size) := by
  rcases h with h | h
  · have h' := h.at hbB
    refine (copyCheck_fresh b w h'.cell0 h'.shape h'.frozen0).mono ?_
    rintro e w' ⟨rfl, rfl⟩
    obtain ⟨v, h1, h2⟩ := h
    refine ⟨rfl, ⟨v, ?_, set_own h2 hbB⟩, (BelX.refl b B w).set _, by simp [World.setCell]⟩
    simp [World.setCell, Array.getElem?_modify, h1]
  · refine (copyCheck_used b w (h.at hbB).cell0).mono ?_
    rintro e w' ⟨rfl, rfl⟩
    exact ⟨rfl, h, BelX.refl _ _ _, rfl⟩
theorem grown_belX {b B : Nat} {w w1 w2 : World} {row : Option Nat} (h : BelX b B w w1) (hg : w1.grownBy w2 row) (hB : B ≤ w1.heap.size) (hbB : b < B) (hrow : ∀ k, row = some k → B ≤ k) : BelX b B w w2 :=
  ⟨h.1.grown hg (by omega) (fun k hk => by have := hrow k hk; omega), fun k hk hne => (hg.block k (by omega) (fun e => by have := hrow k e.symm; omega)).trans (h.2 k hk hne)⟩
theorem own_row {w : World} {B e size n : Nat} {v : Value} {xs : List Value} (h : w.ownsRow B e size v n xs) : ∀ k, v.ownBlock = some k → B ≤ k := by
  rcases h.2 with ⟨rfl, _⟩ | ⟨g, cap, cur, rfl, hB, _⟩
  · intro k hk; cases hk
  · intro k hk; cases hk; exact hB
theorem own_shape {w : World} {B e size n : Nat} {v : Value} {xs : List Value} (h : w.ownsRow B e size v n xs) : v.cells = #[v] ∧ isCell v = true := by
  rcases h.2 with ⟨rfl, _⟩ | ⟨g, cap, cur, rfl, hB, _⟩ <;> exact ⟨rfl, rfl⟩
theorem putX {B b : Nat} {p v v' : Value} {bs : List Value} {w : World} (hb : w.heap[b]? = some (.cells #[p, v] 105 (0, 0))) (hown : w.ownsRow B 5 1 v' bs.length bs) (hbB : b < B) : BuX B b p bs (w.setCell ⟨b, 1, none⟩ v') :=
  ⟨v', by simp [World.setCell, Array.getElem?_modify, hb], set_own hown hbB⟩
theorem writeStringX (B b : Nat) (bs : List Value) (s : ByteArray) (w : World) (h : IsX B b bs w) (hlen : bs.length + s.size ≤ 140737488355328) (hBw : B ≤ w.heap.size) (hbB : b < B) :
    Calls Tryz.prog 67 #[.pointer (some ⟨b, 0, none⟩), .string s] w fun e w' => e = .returned (.tuple #[.int .i64 s.size, .nilIface]) ∧ (BuX B b (.pointer (some ⟨b, 0, none⟩)) (bs ++ Lib.strCells s) w' ∧ BelX b B w w') := by
  obtain ⟨i0, hi, hz0, hz1, hz2⟩ := info_parts infoB
  refine calls_X Tryz.func67 rfl Tryz.ntmps67 Tryz.results67 rfl rfl (by kernel_rfl) fun R hR => ?_
  simp only [push_cast, Nat.reduceBEq, Nat.reduceLeDiff]
  refine (copyCheckX B b bs w h hbB).mono ?_
  rintro e w1 ⟨rfl, ⟨v, hb, hown⟩, hbel, hsz⟩
  have hc1 : w1.cell? ⟨b, 1, none⟩ = some v := by rw [Lib.cell_of_heap hb]; rfl
  simp only [push_cast, Nat.reduceBEq, Nat.reduceLeDiff, Nat.reduceAdd, hc1]
  refine getR_of (Lib.run_append_own_string (P := Tryz.prog) w1 B 22 9 22 5 i0 Tryz.underlying22 Tryz.underlying9 hi hz0 hz1 hz2 v bs.length bs hown s (by unfold maxLen; omega) (by omega) (by omega)) ?_
  rintro v' w2 ⟨hown', hg, _⟩
  have hb2 : w2.heap[b]? = some (.cells #[.pointer (some ⟨b, 0, none⟩), v] 105 (0, 0)) := by
    rw [hg.block b (Array.getElem?_eq_some_iff.1 hb).1 (fun e => ownRow_ne hown hbB e.symm)]; exact hb
  have hl : (bs ++ Lib.strCells s).length = bs.length + s.size := by rw [List.length_append, Lib.strCells_length]
  rw [← hl] at hown'
  have hput := putX hb2 hown' hbB
  obtain ⟨hcv, hiv⟩ := own_shape hown'
  simp only [push_cast, Nat.reduceBEq, Nat.reduceLeDiff, Nat.reduceAdd, hcv, hiv, Lib.cell_of_heap hb2, Lib.frozen_of_heap hb2]
  exact hR _ _ ⟨rfl, hput, (grown_belX hbel hg (by omega) hbB (own_row hown)).set _⟩
theorem writeByteX (B b : Nat) (bs : List Value) (c : Int) (w : World) (h : IsX B b bs w) (hlen : bs.length + 1 ≤ 140737488355328) (hBw : B ≤ w.heap.size) (hbB : b < B) :
    Calls Tryz.prog 77 #[.pointer (some ⟨b, 0, none⟩), .int .u8 c] w fun e w' => e = .returned .nilIface ∧ (BuX B b (.pointer (some ⟨b, 0, none⟩)) (bs ++ [.int .u8 c]) w' ∧ BelX b B w w') := by
  obtain ⟨i0, hi, hz0, hz1, hz2⟩ := info_parts infoB
  refine calls_X Tryz.func77 rfl Tryz.ntmps77 Tryz.results77 rfl rfl (by kernel_rfl) fun R hR => ?_
  simp only [push_cast, Nat.reduceBEq, Nat.reduceLeDiff, Nat.reduceAdd]
  refine (copyCheckX B b bs w h hbB).mono ?_
  rintro e w1 ⟨rfl, ⟨v, hb, hown⟩, hbel, hsz⟩
  have hc1 : w1.cell? ⟨b, 1, none⟩ = some v := by rw [Lib.cell_of_heap hb]; rfl
  simp only [push_cast, Nat.reduceBEq, Nat.reduceLeDiff, Nat.reduceAdd, hc1, bsl22]
  refine getR_of (run_append_own (P := Tryz.prog) (w1.alloc (.cells #[.int .u8 c] 5)) B 22 22 5 i0 (.int .u8 0) 1 1 Tryz.underlying22 hi hz0 hz1 hz2 rfl (by decide) v bs.length bs (hown.alloc _) ⟨w1.heap.size, 0, none⟩ 1 1 [.int .u8 c] rfl (cell_one_new _ _ _) (by simp; rfl) (by unfold maxLen; omega) (by omega) (by simp; omega)) ?_
  rintro v' w2 ⟨hown', hg, _⟩
  have hlt := (Array.getElem?_eq_some_iff.1 hb).1
  have hb2 : w2.heap[b]? = some (.cells #[.pointer (some ⟨b, 0, none⟩), v] 105 (0, 0)) := by
    rw [hg.block b (by simp; omega) (fun e => ownRow_ne hown hbB e.symm), heap_alloc_old w1 _ b hlt]; exact hb
  have hl : (bs ++ [Value.int .u8 c]).length = bs.length + 1 := by simp
  rw [← hl] at hown'
  have hput := putX hb2 hown' hbB
  obtain ⟨hcv, hiv⟩ := own_shape hown'
  simp only [push_cast, Nat.reduceBEq, Nat.reduceLeDiff, Nat.reduceAdd, hcv, hiv, Lib.cell_of_heap hb2, Lib.frozen_of_heap hb2]
  have hba : BelX b B w (w1.alloc (.cells #[.int .u8 c] 5)) := hbel.trans (BelX.below ((Below.refl _ _).alloc (by omega) _) (by omega))
  exact hR _ _ ⟨rfl, hput, (grown_belX hba hg (by simp; omega) hbB (own_row hown)).set _⟩
end Go.Proofs.YtciepffocobgpaaGreatDoor
/-! A text, escaped. -/
namespace Go.Proofs.YtciepffocobgpaaGreatDoor
open Go Go.Sx Go.RowKit
set_option linter.unusedSimpArgs false
set_option linter.unusedVariables false
def inI (a b : Int) (c : UInt8) : Bool := decide (a ≤ (c.toNat : Int)) && decide ((c.toNat : Int) ≤ b)
def freeB (c : UInt8) : Bool := inI 65 90 c || (inI 97 122 c || (inI 48 57 c || decide (Lib.indexByte [45, 46, 95, 42] c ≥ 0)))
theorem free_ (c : UInt8) (w : World) : Calls Tryz.prog 101 #[.int .u8 c.toNat] w fun e w' => e = .returned (.bool (freeB c)) ∧ Below w.heap.size w w' := by
  refine calls_X Tryz.func101 rfl Tryz.ntmps101 Tryz.results101 rfl rfl (by kernel_rfl) fun R hR => ?_
  rw [freeB] at hR
  simp only [push_cast, Nat.reduceBEq, Nat.reduceLeDiff, Nat.reduceAdd, bld143]
  refine (has_ _ _ _ _).mono ?_
  rintro e w2 ⟨rfl, hb2⟩
  rw [show (decide ((65 : Int) ≤ c.toNat) && decide ((c.toNat : Int) ≤ 90)) = inI 65 90 c from rfl]
  cases h1 : inI 65 90 c with
  | true =>
    rw [h1, Bool.true_or] at hR
    simp only [push_cast, Nat.reduceBEq, Nat.reduceLeDiff, Nat.reduceAdd, bld143]
    exact hR _ _ ⟨rfl, hb2⟩
  | false =>
    rw [h1, Bool.false_or] at hR
    simp only [push_cast, Nat.reduceBEq, Nat.reduceLeDiff, Nat.reduceAdd, bld143]
    refine (has_ _ _ _ _).mono ?_
    rintro e w3 ⟨rfl, hb3⟩
    have hb03 := hb2.trans (hb3.mono hb2.size)
    rw [show (decide ((97 : Int) ≤ c.toNat) && decide ((c.toNat : Int) ≤ 122)) = inI 97 122 c from rfl]
    cases h2 : inI 97 122 c with
    | true =>
      rw [h2, Bool.true_or] at hR
      simp only [push_cast, Nat.reduceBEq, Nat.reduceLeDiff, Nat.reduceAdd, bld143]
      exact hR _ _ ⟨rfl, hb03⟩
    | false =>
      rw [h2, Bool.false_or] at hR
      simp only [push_cast, Nat.reduceBEq, Nat.reduceLeDiff, Nat.reduceAdd, bld143]
      refine (has_ _ _ _ _).mono ?_
      rintro e w4 ⟨rfl, hb4⟩
      have hb04 := hb03.trans (hb4.mono hb03.size)
      rw [show (decide ((48 : Int) ≤ c.toNat) && decide ((c.toNat : Int) ≤ 57)) = inI 48 57 c from rfl]
      cases h3 : inI 48 57 c with
      | true =>
        rw [h3, Bool.true_or] at hR
        simp only [push_cast, Nat.reduceBEq, Nat.reduceLeDiff, Nat.reduceAdd, bld143]
        exact hR _ _ ⟨rfl, hb04⟩
      | false =>
        rw [h3, Bool.false_or] at hR
        simp only [push_cast, Nat.reduceBEq, Nat.reduceLeDiff, Nat.reduceAdd, bld143]
        refine (Tryz.strings_IndexByte _ _ _).mono ?_
        rintro e w' ⟨rfl, rfl⟩
        simp only [push_cast, Nat.reduceBEq, Nat.reduceLeDiff, Nat.reduceAdd]
        refine hR _ _ ⟨?_, hb04⟩
        rw [show c.toNat.toUInt8 = c from by simp]
def hx (n : Nat) : UInt8 := hexL.getD n 0
def esc1 (c : UInt8) : Bytes := if freeB c = true then [c] else if c = 32 then [43] else [37, hx (c.toNat / 16), hx (c.toNat % 16)]
def escS (l : Bytes) : Bytes := l.flatMap esc1
theorem esc1_len (c : UInt8) : (esc1 c).length ≤ 3 := by
  unfold esc1
  by_cases h1 : freeB c = true
  · rw [if_pos h1]; simp
  · rw [if_neg h1]
    by_cases h2 : c = 32
    · rw [if_pos h2]; simp
    · rw [if_neg h2]; simp
theorem escS_len (l : Bytes) : (escS l).length ≤ 3 * l.length := by
  induction l with
  | nil => simp [escS]
  | cons c l ih =>
    have := esc1_len c
    simp only [escS, List.flatMap_cons, List.length_append, List.length_cons] at *
    omega
theorem escS_snoc (l : Bytes) (c : UInt8) : escS (l ++ [c]) = escS l ++ esc1 c := by simp [escS]
theorem bytesAt_cell {w : World} {b n c : Nat} {l : Bytes} (h : BytesAt w (.slice (some ⟨b, 0, none⟩) n c) l) {j : Nat} {x : UInt8} (hj : l[j]? = some x) : w.cell? ⟨b, j, none⟩ = some (.int .u8 x.toNat) := by
  rcases h with ⟨_, _, _, rfl⟩ | ⟨b', o, c', hv, h2, h3⟩
  · simp at hj
  · cases hv
    have := h3 j x hj
    rwa [Nat.zero_add] at this
theorem IsX.fresh (w w' : World) (hb : Below (w.heap.size + 1) (al w [([.pointer none, .slice none 0 0], 105)]) w') (B : Nat) : IsX B w.heap.size (Lib.byteCells []) w' := by
  refine .inl ⟨.slice none 0 0, ?_, World.ownsRow_nil _ _ _ _⟩
  rw [hb.block _ (Nat.lt_succ_self _)]
  exact (al_heap_new w _ 0).trans rfl
theorem shr4 (c : UInt8) (t : TypeId) (g : Bool) (w : World) : (binRun .shr t g (.int .u8 c.toNat) (.int .u64 4)).run Tryz.prog w = .ok (.int .u8 ((c.toNat / 16 : Nat) : Int)) w := by
  rw [binRun_shr, Op.shift, if_neg (by decide), show min (4 : Int).toNat IntKind.u8.bits = 4 from rfl]
  show Result.ok (Value.int .u8 ((c.toNat : Int).fdiv (2 ^ 4))) w = _
  rw [Int.fdiv_eq_ediv_of_nonneg _ (by decide), show ((2 : Int) ^ 4) = ((16 : Nat) : Int) from rfl, ← Int.natCast_ediv]
theorem and15 (c : UInt8) (t : TypeId) (g : Bool) (w : World) : (binRun .and t g (.int .u8 c.toNat) (.int .u8 15)).run Tryz.prog w = .ok (.int .u8 ((c.toNat % 16 : Nat) : Int)) w := by
  rw [show binRun .and t g (.int .u8 c.toNat) (.int .u8 15) = pure (.int .u8 (bits .and .u8 c.toNat 15)) from by cases g <;> rfl]
  have h := byte_all (fun c => decide (bits .and .u8 (c.toNat : Int) 15 = ((c.toNat % 16 : Nat) : Int))) (by kernel_rfl) c
  rw [decide_eq_true_eq] at h
  rw [h]; rfl
theorem IsX.drew {B b : Nat} {bs : List Value} {w : World} (h : IsX B b bs w) : IsX B b bs w.drew := h
theorem ext_hx : ∀ d, d < 16 → (⟨#[48, 49, 50, 51, 52, 53, 54, 55, 56, 57, 65, 66, 67, 68, 69, 70]⟩ : ByteArray).extract d (d + 1) = mkS [hx d] := by
  intro d hd
  apply toL_inj
  rw [toL_extract, toL_mkS]
  have : (List.range 16).all (fun d => decide (((toL ⟨#[48, 49, 50, 51, 52, 53, 54, 55, 56, 57, 65, 66, 67, 68, 69, 70]⟩).take (d + 1)).drop d = [hx d])) = true := by kernel_rfl
  have := List.all_eq_true.1 this d (List.mem_range.2 hd)
  exact of_decide_eq_true this
theorem w8 {n : Int} (h1 : 0 ≤ n) (h2 : n ≤ 255) : IntKind.u8.wrap n = n := IntWalk.u8_in _ ⟨h1, h2⟩
set_option maxRecDepth 20000 in
theorem Escape_ (s : ByteArray) (w : World) (hs : s.size ≤ 1000000) : Calls Tryz.prog 69 #[.string s] w fun e w' => e = .returned (.string (mkS (escS (toL s)))) ∧ Below w.heap.size w w' := by
  refine calls_X Tryz.func69 rfl Tryz.ntmps69 Tryz.results69 rfl rfl (by kernel_rfl) fun R hR => ?_
  simp only [push_cast, Nat.reduceBEq, Nat.reduceLeDiff, Nat.reduceAdd]
  obtain ⟨w1, hw1⟩ : ∃ w1, w1 = al w [([Value.pointer none, .slice none 0 0], 105)] := ⟨_, rfl⟩
  have hs1 : w1.heap.size = w.heap.size + 1 := by rw [hw1, al_size]; rfl
  have hb1 : Below w.heap.size w w1 := hw1 ▸ al_below _ _
  rw [← hw1]
  refine getR_of (conv_bytes s w1) ?_
  rintro v w2 ⟨hB2, hb2, cc, rfl⟩
  have hX0 := IsX.fresh w w2 (by rw [← hw1, ← hs1]; exact hb2) w2.heap.size
  clear hw1
  have hs2 := hb2.size
  have hlt : w1.heap.size < w2.heap.size ∨ s.size = 0 := by
    rcases hB2 with ⟨_, _, hv, hl⟩ | ⟨b', o, c', hv, h2, h3⟩
    · right; have := toL_len s; rw [hl] at this; simpa using this.symm
    · left; cases hv; exact h2
  have hb02 := hb1.trans (hb2.mono hb1.size)
  generalize hb0 : w.heap.size = b at *
  simp only [push_cast, Nat.reduceBEq, Nat.reduceLeDiff, Nat.reduceAdd]
  refine law_loop [(5, 5), (9, 37)] (fun n h w' => ∃ k : Nat, k ≤ s.size ∧ n = s.size - k ∧ h 9 = .int .i64 k ∧ IsX w2.heap.size b (Lib.byteCells (escS ((toL s).take k))) w' ∧ BelX b w2.heap.size w2 w') s.size ⟨0, by omega, by omega, rfl, by rw [List.take_zero]; exact hX0, BelX.refl _ _ _⟩ ?_
  rintro n h w3 ⟨k, hk, hn, h9, hX, hbx⟩ T hT
  have hsz3 := hbx.1.size
  have hel := escS_len ((toL s).take k)
  rw [List.length_take, toL_len] at hel
  by_cases hkl : k < s.size
  · have hkt : k < (toL s).length := by rw [toL_len]; exact hkl
    have qk : decide ((k : Int) < s.size) = true := decide_eq_true (by omega)
    have hc3 : w3.cell? ⟨w1.heap.size, k * 1, none⟩ = some (.int .u8 ((toL s)[k]).toNat) := by
      rw [Nat.mul_one, World.cell?_of_block (hbx.2 _ (show w1.heap.size < _ by omega) (show w1.heap.size ≠ _ by omega))]
      exact bytesAt_cell hB2 (List.getElem?_eq_getElem hkt)
    have htk := List.take_succ_eq_append_getElem hkt
    generalize (toL s)[k] = c at hc3 htk
    have e32 : ((c.toNat : Int) = 32) ↔ c = 32 := u8_eq c 32
    simp only [push_cast, Nat.reduceBEq, Nat.reduceLeDiff, Nat.reduceAdd, h9, qk, hc3]
    refine ⟨⟨by omega, by omega⟩, (free_ c _).mono ?_⟩
    rintro e w4 ⟨rfl, hb4⟩
    have hX4 := hX.belX hb4
    have hbx4 := hbx.trans (BelX.below (hb4.mono hsz3) (by omega))
    have hsz4 := hbx4.1.size
    have fin : ∀ w5 (bs : List Value), bs = Lib.byteCells (escS ((toL s).take k)) ++ Lib.byteCells (esc1 c) → BuX w2.heap.size b (.pointer (some ⟨b, 0, none⟩)) bs w5 → IsX w2.heap.size b (Lib.byteCells (escS ((toL s).take (k + 1)))) w5 := by
      rintro w5 bs rfl hbu
      rw [htk, escS_snoc, show Lib.byteCells (escS ((toL s).take k) ++ esc1 c) = Lib.byteCells (escS ((toL s).take k)) ++ Lib.byteCells (esc1 c) from by simp [Lib.byteCells]]
      exact .inr hbu
    cases hf : freeB c with
    | true =>
      simp only [push_cast, Nat.reduceBEq, Nat.reduceLeDiff, Nat.reduceAdd, h9]
      refine (writeByteX w2.heap.size b _ c.toNat w4 hX4 (by rw [bc_len]; omega) hsz4 (by omega)).mono ?_
      rintro e w5 ⟨rfl, hbu, hb5⟩
      simp only [push_cast, Nat.reduceBEq, Nat.reduceLeDiff, Nat.reduceAdd, h9]
      refine hT (s.size - (k + 1)) _ _ (by simp only [push_cast, Nat.reduceBEq, Nat.reduceLeDiff]) (by omega) ⟨k + 1, by omega, rfl, ?_, fin _ _ (by rw [esc1, if_pos hf]; rfl) hbu, hbx4.trans hb5⟩
      simp only [push_cast, Nat.reduceBEq, Nat.reduceLeDiff]; rw [w64 (by omega) (by omega)]
    | false =>
      by_cases h32 : c = 32
      · have q32 : decide ((c.toNat : Int) = 32) = true := decide_eq_true (e32.2 h32)
        simp only [push_cast, Nat.reduceBEq, Nat.reduceLeDiff, Nat.reduceAdd, h9, q32]
        refine (writeByteX w2.heap.size b _ 43 w4 hX4 (by rw [bc_len]; omega) hsz4 (by omega)).mono ?_
        rintro e w5 ⟨rfl, hbu, hb5⟩
        simp only [push_cast, Nat.reduceBEq, Nat.reduceLeDiff, Nat.reduceAdd, h9]
        refine hT (s.size - (k + 1)) _ _ (by simp only [push_cast, Nat.reduceBEq, Nat.reduceLeDiff]) (by omega) ⟨k + 1, by omega, rfl, ?_, fin _ _ (by rw [esc1, if_neg (by rw [hf]; decide), if_pos h32]; rfl) hbu, hbx4.trans hb5⟩
        simp only [push_cast, Nat.reduceBEq, Nat.reduceLeDiff]; rw [w64 (by omega) (by omega)]
      · have q32 : decide ((c.toNat : Int) = 32) = false := decide_eq_false (fun hh => h32 (e32.1 hh))
        simp only [push_cast, Nat.reduceBEq, Nat.reduceLeDiff, Nat.reduceAdd, h9, q32]
        refine law_planK (fun _ => True) (.take 0 (.take 1 (.take 2 (.take 3 (.take 4 (.take 5 (.take 6 (.take 7 (.take 8 (.take 9 (.take 10 (.take 11 (.take 12 (.take 13 (.alt 14 (.done) (.nil)))))))))))))))) (by kernel_rfl) (by kernel_rfl) (by kernel_rfl) trivial ?_
        intro K hK
        simp only [push_cast, Nat.reduceBEq, Nat.reduceLeDiff, Nat.reduceAdd, h9]
        have hc := c.toNat_lt
        have d1 : c.toNat / 16 < 16 := by omega
        have d2 : c.toNat % 16 < 16 := by omega
        generalize hy : c.toNat / 16 = y at *
        generalize hz : c.toNat % 16 = z at *
        have wy : IntKind.u8.wrap ((y : Int) + 1) = (y : Int) + 1 := w8 (by omega) (by omega)
        have wz : IntKind.u8.wrap ((z : Int) + 1) = (z : Int) + 1 := w8 (by omega) (by omega)
        have sy : ∀ (g : Bool) K, binQ Tryz.prog .shr 5 g (.int .u8 c.toNat) (.int .u64 4) K = K (.int .u8 (y : Int)) := fun g K => binQ_eq (fun w => by rw [shr4, hy]) K
        have sz : ∀ (g : Bool) K, binQ Tryz.prog .and 5 g (.int .u8 c.toNat) (.int .u8 15) K = K (.int .u8 (z : Int)) := fun g K => binQ_eq (fun w => by rw [and15, hz]) K
        have ey := ext_hx y d1
        have ez := ext_hx z d2
        have ty : ((y : Int) + 1).toNat = y + 1 := by omega
        have tz : ((z : Int) + 1).toNat = z + 1 := by omega
        have s1 : (⟨#[48, 49, 50, 51, 52, 53, 54, 55, 56, 57, 65, 66, 67, 68, 69, 70]⟩ : ByteArray).size = 16 := rfl
        simp only [push_cast, Nat.reduceBEq, Nat.reduceLeDiff, Nat.reduceAdd, h9, sy, sz, wy, wz, ty, tz, ey, ez, Int.toNat_natCast, s1]
        have s37 : (⟨#[37]⟩ : ByteArray).size = 1 := rfl
        refine ⟨⟨by omega, by omega, by omega⟩, by rw [size_mkS, s37]; simp, ⟨by omega, by omega, by omega⟩, by rw [ByteArray.size_append, size_mkS, size_mkS, s37]; simp, ?_⟩
        rw [show (⟨#[37]⟩ ++ mkS [hx y] ++ mkS [hx z] : ByteArray) = mkS [37, hx y, hx z] from by apply toL_inj; simp [toL, mkS]]
        refine (writeStringX w2.heap.size b _ (mkS [37, hx y, hx z]) w4.drew hX4.drew (by rw [bc_len, size_mkS]; simp; omega) hsz4 (by omega)).mono ?_
        rintro e w5 ⟨rfl, hbu, hb5⟩
        simp only [push_cast, Nat.reduceBEq, Nat.reduceLeDiff, Nat.reduceAdd, h9]
        refine hK _ _ ?_
        clear hK
        simp only [push_cast, Nat.reduceBEq, Nat.reduceLeDiff, Nat.reduceAdd, h9]
        refine hT (s.size - (k + 1)) _ _ (by simp only [push_cast, Nat.reduceBEq, Nat.reduceLeDiff]) (by omega) ⟨k + 1, by omega, rfl, ?_, fin _ _ (by rw [esc1, if_neg (by rw [hf]; decide), if_neg h32, hy, hz]; simp [Lib.byteCells, Lib.strCells, mkS]) hbu, (hbx4.drew).trans hb5⟩
        simp only [push_cast, Nat.reduceBEq, Nat.reduceLeDiff]; rw [w64 (by omega) (by omega)]
  · have qk : decide ((k : Int) < s.size) = false := decide_eq_false (by omega)
    simp only [push_cast, Nat.reduceBEq, Nat.reduceLeDiff, Nat.reduceAdd, h9, qk]
    rw [take_all s k (by omega)] at hX hel
    refine (Tryz.Builder_String_any_f b b (escS (toL s)) w3 (Lib.IsBuilderF.of (hX.is (by omega))) (by omega)).mono ?_
    rintro e w4 ⟨rfl, hB4, hb4⟩
    simp only [push_cast, Nat.reduceBEq, Nat.reduceLeDiff, Nat.reduceAdd]
    exact hR _ _ ⟨rfl, (hb02.trans hbx.1).trans hb4⟩
end Go.Proofs.YtciepffocobgpaaGreatDoor
/-! Slices of pairs that come in: found, copied. -/
namespace Go.Proofs.YtciepffocobgpaaGreatDoor
open Go Go.Sx Go.RowKit
set_option linter.unusedSimpArgs false
set_option linter.unusedVariables false
/-- As PairsAt; an empty slice may have any base. -/
def PairsV (w : World) (v : Value) (ps : List Pr) : Prop := ∃ A c, v = .slice A ps.length c ∧ (∀ j p, ps[j]? = some p → ∃ b o, A = some ⟨b, o, none⟩ ∧ b < w.heap.size ∧ w.cell? ⟨b, o + j * 2, none⟩ = some (.string (mkS p.1)) ∧ w.cell? ⟨b, o + j * 2 + 1, none⟩ = some (.string (mkS p.2)))
theorem PairsAt.V {w : World} {v : Value} {ps : List Pr} (h : PairsAt w v ps) : PairsV w v ps := pairsAt_shape h
theorem pairsV_below {w w' : World} {v : Value} {ps : List Pr} (h : PairsV w v ps) (hb : Below w.heap.size w w') : PairsV w' v ps := by
  obtain ⟨A, c, h1, h2⟩ := h
  refine ⟨A, c, h1, fun j p hj => ?_⟩
  obtain ⟨b, o, h3, h4, h5, h6⟩ := h2 j p hj
  exact ⟨b, o, h3, Nat.lt_of_lt_of_le h4 hb.size, (hb.cell (p := ⟨b, _, none⟩) h4).trans h5, (hb.cell (p := ⟨b, _, none⟩) h4).trans h6⟩
theorem cl_pairsV {w : World} {v : Value} {ps : List Pr} (h : PairsV w v ps) : Cl v := by
  obtain ⟨A, c, rfl, _⟩ := h
  exact ⟨rfl, rfl⟩
theorem index59V (v : Value) (ps : List Pr) (b : Nat) (s : ByteArray) (w : World) (hb : b < w.heap.size) (hc : w.cell? ⟨b, 0, none⟩ = some (.string s)) (hv : PairsV w v ps) (hl : ps.length ≤ 140737488355328) :
    Calls Tryz.prog 59 #[v, .func (.func 60) #[] #[.pointer (some ⟨b, 0, none⟩)]] w fun e w' => (∃ i : Int, e = .returned (.int .i64 i) ∧ ((i = -1 ∧ getP ps (toL s) = none) ∨ ∃ (k : Nat) (p : Pr), i = k ∧ ps[k]? = some p ∧ getP ps (toL s) = some p.2)) ∧ Below w.heap.size w w' := by
  have hv0 := hv
  obtain ⟨A, c, rfl, hcells⟩ := hv
  refine calls_X Tryz.func59 rfl Tryz.ntmps59 Tryz.results59 rfl rfl (by kernel_rfl) fun R hR => ?_
  simp only [push_cast, Nat.reduceBEq, Nat.reduceLeDiff, Nat.reduceAdd]
  refine law_loop [(4, 5), (8, 18)] (fun n h w' => ∃ k : Nat, k ≤ ps.length ∧ n = ps.length - k ∧ h 8 = .int .i64 k ∧ getP ps (toL s) = getP (ps.drop k) (toL s) ∧ Below w.heap.size w w') ps.length ⟨0, by omega, by omega, rfl, rfl, Below.refl _ _⟩ ?_
  rintro n h w2 ⟨k, hk, hn, h8, hg, hbw⟩ T hT
  simp only [push_cast, Nat.reduceBEq, Nat.reduceLeDiff, Nat.reduceAdd, h8]
  refine ⟨fun hcc => ?_, fun hcc => ?_⟩
  · simp only [decide_eq_true_eq, Int.ofNat_lt] at hcc
    have hx : ps[k]? = some ps[k] := List.getElem?_eq_getElem hcc
    have hd := List.drop_eq_getElem_cons hcc
    generalize ps[k] = p at hx hd
    obtain ⟨b1, o, rfl, hb1, c1, c2⟩ := hcells k _ hx
    rw [← hbw.cell (p := ⟨b1, _, none⟩) hb1] at c1 c2
    have hs2 := hbw.size
    simp only [push_cast, Nat.reduceBEq, Nat.reduceLeDiff, Nat.reduceAdd, h8, c1, c2]
    refine ⟨⟨by omega, by omega⟩, ?_⟩
    refine (find1 p b s w2 (by omega) ((hbw.cell (p := ⟨b, 0, none⟩) hb).trans hc)).mono ?_
    rintro e w3 ⟨rfl, hb3⟩
    have hbw3 := hbw.trans (hb3.mono hs2)
    simp only [push_cast, Nat.reduceBEq, Nat.reduceLeDiff, Nat.reduceAdd, h8]
    refine ⟨fun hp => hR _ _ ⟨⟨_, rfl, .inr ⟨k, p, rfl, hx, ?_⟩⟩, hbw3⟩, fun hp => hT (ps.length - (k + 1)) _ _ (by simp only [push_cast, Nat.reduceBEq, Nat.reduceLeDiff]) (by omega) ⟨k + 1, by omega, rfl, ?_, ?_, hbw3⟩⟩
    · rw [hg, hd, getP, List.find?_cons_of_pos (p := fun q : Pr => q.1 == toL s) hp]; rfl
    · simp only [push_cast, Nat.reduceBEq, Nat.reduceLeDiff]; rw [w64 (by omega) (by omega)]
    · rw [hg, hd, getP, List.find?_cons_of_neg (p := fun q : Pr => q.1 == toL s) (by simp only [hp]; decide)]; rfl
  · simp only [decide_eq_false_iff_not, Int.ofNat_lt, Nat.not_lt] at hcc
    refine hR _ _ ⟨⟨_, rfl, .inl ⟨rfl, ?_⟩⟩, hbw⟩
    rw [hg, List.drop_eq_nil_of_le hcc]; rfl
theorem find_V (v : Value) (ps : List Pr) (s : ByteArray) (w : World) (hv : PairsV w v ps) (hl : ps.length ≤ 140737488355328) :
    Calls Tryz.prog 29 #[v, .string s] w fun e w' => e = .returned (gvP (getP ps (toL s))) ∧ Below w.heap.size w w' := by
  have hv0 := hv
  obtain ⟨A, c, rfl, hcells⟩ := hv
  refine calls_X Tryz.func29 rfl Tryz.ntmps29 Tryz.results29 rfl rfl (by kernel_rfl) fun R hR => ?_
  simp only [push_cast, Nat.reduceBEq, Nat.reduceLeDiff, Nat.reduceAdd]
  refine (index59V _ ps w.heap.size s (al w [([.string s], 9)]) (by rw [al_size]; simp) (al_cell0 ..) (pairsV_below hv0 (al_below _ _)) hl).mono ?_
  rintro e w2 ⟨⟨i, rfl, hi⟩, hb⟩
  have hbw : Below w.heap.size w w2 := (al_below w _).trans (hb.mono (by rw [al_size]; omega))
  simp only [push_cast, Nat.reduceBEq, Nat.reduceLeDiff, Nat.reduceAdd]
  rcases hi with ⟨rfl, hg⟩ | ⟨k, p, rfl, hp, hg⟩
  · simp only [push_cast, Int.reduceNeg, Int.reduceLT, decide_true]
    exact hR _ _ ⟨by rw [hg]; rfl, hbw⟩
  · obtain ⟨b1, o, rfl, hb1, c1, c2⟩ := hcells k _ hp
    rw [← hbw.cell (p := ⟨b1, _, none⟩) hb1] at c1 c2
    have hk := (List.getElem?_eq_some_iff.1 hp).1
    simp only [push_cast, Nat.reduceBEq, Nat.reduceLeDiff, Nat.reduceAdd, c1, c2, show decide ((k : Int) < 0) = false from by simp]
    refine ⟨⟨by omega, by omega⟩, hR _ _ ⟨by rw [hg]; rfl, hbw⟩⟩
theorem Header_V (m p : ByteArray) (vq vh vb : Value) (ps : List Pr) (n : Bytes) (w : World) (hv : PairsV w vh ps) (hl : ps.length ≤ 1000000) :
    Calls Tryz.prog 12 #[.agg #[.string m, .string p, vq, vh, vb], .string (mkS n)] w fun e w' => e = .returned (gvP (getP ps n)) ∧ Below w.heap.size w w' := by
  obtain ⟨z1, z2⟩ := cl_pairsV hv
  refine calls_X Tryz.func12 rfl Tryz.ntmps12 Tryz.results12 rfl rfl (by kernel_rfl) fun R hR => ?_
  simp only [push_cast, Nat.reduceBEq, Nat.reduceLeDiff, Nat.reduceAdd]
  have hb0 := al_below w [([Value.string m, Value.string p, vq, vh, vb], 27)]
  refine (find_V vh ps (mkS n) _ (pairsV_below hv hb0) (by omega)).mono ?_
  rintro e w2 ⟨rfl, hb⟩
  have hbw : Below w.heap.size w w2 := hb0.trans (hb.mono hb0.size)
  rw [toL_mkS]
  cases hg : getP ps n with
  | none =>
    rw [hg] at hR
    simp only [push_cast, Nat.reduceBEq, Nat.reduceLeDiff, Nat.reduceAdd, gvP] at hR ⊢
    exact hR _ _ ⟨rfl, hbw⟩
  | some x =>
    rw [hg] at hR
    simp only [push_cast, Nat.reduceBEq, Nat.reduceLeDiff, Nat.reduceAdd, gvP] at hR ⊢
    exact hR _ _ ⟨rfl, hbw⟩
end Go.Proofs.YtciepffocobgpaaGreatDoor
/-! A form, shown. -/
namespace Go.Proofs.YtciepffocobgpaaGreatDoor
open Go Go.Sx Go.RowKit
set_option linter.unusedSimpArgs false
set_option linter.unusedVariables false
def oneS (p : Pr) : Bytes := escS p.1 ++ [61] ++ escS p.2
def showS (ps : List Pr) : Bytes := Lib.join (ps.map oneS) [38]
theorem oneS_len (p : Pr) (h : p.1.length ≤ 100000 ∧ p.2.length ≤ 100000) : (oneS p).length ≤ 600001 := by
  have h1 := escS_len p.1
  have h2 := escS_len p.2
  simp only [oneS, List.length_append, List.length_cons, List.length_nil]; omega
theorem join_len (sep : Bytes) (m : Nat) : ∀ xs : List Bytes, (∀ x ∈ xs, x.length ≤ m) → (Lib.join xs sep).length ≤ xs.length * (m + sep.length)
  | [], _ => by simp [Lib.join, List.intercalate]
  | [x], h => by have := h x (List.mem_cons_self ..); simp [Lib.join, List.intercalate]; omega
  | x :: y :: r, h => by
    have h1 := h x (List.mem_cons_self ..)
    have h2 := join_len sep m (y :: r) fun z hz => h z (List.mem_cons_of_mem _ hz)
    have e : Lib.join (x :: y :: r) sep = x ++ sep ++ Lib.join (y :: r) sep := by simp [Lib.join, List.intercalate, List.intersperse]
    rw [e]
    simp only [List.length_append, List.length_cons] at *
    rw [Nat.succ_mul]
    omega
theorem join_out (l : List Bytes) (sep : ByteArray) (w : World) (B : Nat) (v : Value) (hown : w.ownsRow B 9 1 v l.length (strCs l)) (hl : l.length ≤ 1000) (hx : ∀ x ∈ l, x.length ≤ 1000000) (hs : sep.size ≤ 10) :
    Calls Tryz.prog 70 #[v, .string sep] w fun e w' => e = .returned (.string (mkS (Lib.join l (toL sep)))) ∧ Below w.heap.size w w' := by
  have hj := join_len (toL sep) 1000000 l hx
  rw [toL_len] at hj
  have hj2 : l.length * (1000000 + sep.size) ≤ 1000 * 1000010 := Nat.mul_le_mul hl (by omega)
  rcases hown.2 with ⟨rfl, h2⟩ | ⟨g, cap, cur, rfl, h1, h2, h3, h4, h5, h6⟩
  · obtain rfl := List.length_eq_zero_iff.1 h2
    refine (Tryz.strings_Join_none none 0 sep w).mono ?_
    rintro e w' ⟨rfl, rfl⟩
    exact ⟨rfl, Below.refl _ _⟩
  · have hc := strs_of_own hown
    have em : (l.map mkS).map (fun x => x.data.toList) = l := by rw [List.map_map]; conv => rhs; rw [← List.map_id l]
                                                                 apply List.map_congr_left; intro c _; exact toL_mkS c
    have := Tryz.strings_Join g 0 cap (l.map mkS) sep w (fun j x hj => by
      rw [List.getElem?_map] at hj
      obtain ⟨y, hy, rfl⟩ := Option.map_eq_some_iff.1 hj
      rcases hc with ⟨c, hv, hn⟩ | ⟨b, o, c, hv, _, h8⟩
      · subst hn; simp at hy
      · cases hv
        exact h8 j y hy) (Array.getElem?_eq_some_iff.1 h2).1 (by rw [List.length_map]; omega) (by rw [List.length_map]; omega) (by rw [em]; exact Nat.le_trans hj (by omega))
    rw [em, List.length_map] at this
    exact this
theorem append34g (w : World) (B : Nat) (v : Value) (l : List Bytes) (x : Bytes) (hown : w.ownsRow B 9 1 v l.length (strCs l)) (hB : B ≤ w.heap.size) (hl : l.length ≤ 1000000000) :
    ∃ v' w', Sem.run Tryz.prog (Builtin.append_ #[34, 34] 34 #[v, .slice (some ⟨w.heap.size, 0, none⟩) 1 1]) (al w [([.string (mkS x)], 9)]) = .ok v' w' ∧
      (w'.ownsRow B 9 1 v' (l ++ [x]).length (strCs (l ++ [x])) ∧ Below B w w' ∧ ∀ k, k < w.heap.size → v.ownBlock ≠ some k → w'.heap[k]? = w.heap[k]?) := by
  obtain ⟨i0, hi, hz0, hz1, hz2⟩ := info_parts info9
  have hnews : ∀ (j : Nat) (u : Value), [Value.string (mkS x)][j]? = some u → (al w [([.string (mkS x)], 9)]).cell? ((⟨w.heap.size, 0, none⟩ : Addr).add j) = some u := by
    intro j u hj
    rcases j with _ | j
    · simp at hj; subst hj; exact al_cell0 ..
    · simp at hj
  obtain ⟨v', w', h1, h2, h3, _⟩ := run_append_own (P := Tryz.prog) (al w [([.string (mkS x)], 9)]) B 34 34 9 i0 (.string ⟨#[]⟩) 1 16 Tryz.underlying34 hi hz0 hz1 hz2 rfl (by decide) v l.length (strCs l) (own_below hown (al_below _ _)) ⟨w.heap.size, 0, none⟩ 1 1 [.string (mkS x)] rfl hnews (by simp; rfl) (by unfold maxLen; omega) (by omega) (by rw [al_size]; omega)
  · refine ⟨v', w', h1, ?_, ?_, fun k hk hne => ?_⟩
    · rw [show strCs (l ++ [x]) = strCs l ++ [.string (mkS x)] from by simp [strCs], show (l ++ [x]).length = l.length + 1 from by simp]; exact h2
    · exact Below.grown ((al_below w _).mono hB) h3 (by rw [al_size]; omega) (own_row hown)
    · rw [h3.block k (by rw [al_size]; omega) (fun e => hne e.symm)]
      exact (al_below w _).block k hk
set_option maxRecDepth 20000 in
theorem Show_ (v : Value) (ps : List Pr) (w : World) (hv : PairsV w v ps) (hl : ps.length ≤ 1000) (hp : ∀ p ∈ ps, p.1.length ≤ 100000 ∧ p.2.length ≤ 100000) :
    Calls Tryz.prog 36 #[v] w fun e w' => e = .returned (.string (mkS (showS ps))) ∧ Below w.heap.size w w' := by
  obtain ⟨A, c, rfl, hcells⟩ := hv
  refine calls_X Tryz.func36 rfl Tryz.ntmps36 Tryz.results36 rfl rfl (by kernel_rfl) fun R hR => ?_
  simp only [push_cast, Nat.reduceBEq, Nat.reduceLeDiff, Nat.reduceAdd]
  refine law_loop [(3, 3), (5, 5), (8, 23)] (fun n h w' => ∃ (k : Nat) (vv : Value), k ≤ ps.length ∧ n = ps.length - k ∧ h 8 = .int .i64 k ∧ h 3 = vv ∧ w'.ownsRow w.heap.size 9 1 vv ((ps.take k).map oneS).length (strCs ((ps.take k).map oneS)) ∧ Below w.heap.size w w') ps.length ⟨0, _, by omega, by omega, rfl, rfl, World.ownsRow_nil _ _ _ _, Below.refl _ _⟩ ?_
  rintro n h w2 ⟨k, vv, hk, hn, h8, h3, hown, hb⟩ T hT
  have hsz := hb.size
  by_cases hkl : k < ps.length
  · have qk : decide ((k : Int) < ps.length) = true := decide_eq_true (by omega)
    obtain ⟨b, o, rfl, hb1, c1, c2⟩ := hcells k _ (List.getElem?_eq_getElem hkl)
    have hpk := hp _ (List.getElem_mem hkl)
    have htk := List.take_succ_eq_append_getElem hkl
    generalize ps[k] = p at c1 c2 htk hpk
    rw [← hb.cell (p := ⟨b, _, none⟩) hb1] at c1 c2
    simp only [push_cast, Nat.reduceBEq, Nat.reduceLeDiff, Nat.reduceAdd, h8, h3, qk, c1, c2]
    refine ⟨⟨by omega, by omega⟩, ?_⟩
    obtain ⟨w3, hw3⟩ : ∃ w3, w3 = al w2 [([Value.string (mkS p.1), .string (mkS p.2)], 41)] := ⟨_, rfl⟩
    have hs3 : w3.heap.size = w2.heap.size + 1 := by rw [hw3, al_size]; rfl
    have hb3 : Below w2.heap.size w2 w3 := hw3 ▸ al_below _ _
    have d1 : w3.cell? ⟨w2.heap.size, 0, none⟩ = some (.string (mkS p.1)) := by rw [hw3]; exact al_cell0 ..
    have d2 : w3.cell? ⟨w2.heap.size, 1, none⟩ = some (.string (mkS p.2)) := by rw [hw3]; exact al_cell0 ..
    rw [← hw3]
    clear hw3
    have hgb : ∀ k, vv.ownBlock = some k → k < w2.heap.size := by
      rcases hown.2 with ⟨hvn, _⟩ | ⟨g, cap, cur, hvn, _, hg, _⟩
      · intro k hk; rw [hvn] at hk; cases hk
      · intro k hk; rw [hvn] at hk; cases hk; exact (Array.getElem?_eq_some_iff.1 hg).1
    obtain ⟨C, hC⟩ : ∃ C : World → Prop, C = fun w' => w'.heap[w2.heap.size]? = w3.heap[w2.heap.size]? := ⟨_, rfl⟩
    have hCb : ∀ w', Below w3.heap.size w3 w' → C w' := fun w' hw' => by rw [hC]; exact hw'.block _ (by omega)
    have hC3 : C w3.drew := hCb _ (Below.refl _ _).drew
    have k1 : cellC C ⟨w2.heap.size, 0, none⟩ = some (.string (mkS p.1)) := cellC_of w3.drew hC3 fun w' hw' => by rw [hC] at hw'; exact (World.cell?_of_block (a := ⟨w2.heap.size, 0, none⟩) hw').trans d1
    have k2 : cellC C ⟨w2.heap.size, 1, none⟩ = some (.string (mkS p.2)) := cellC_of w3.drew hC3 fun w' hw' => by rw [hC] at hw'; exact (World.cell?_of_block (a := ⟨w2.heap.size, 1, none⟩) hw').trans d2
    have hown3 := own_below hown hb3
    refine law_planK C (.take 0 (.take 1 (.take 2 (.take 5 (.take 6 (.alt 3 (.take 4 (.alt 7 (.take 8 (.alt 9 (.alt 10 (.take 11 (.done)) (.nil)) (.nil))) (.nil))) (.nil))))))) (by kernel_rfl) (by kernel_rfl) (by kernel_rfl) hC3 ?_
    intro K hK
    simp only [push_cast, Nat.reduceBEq, Nat.reduceLeDiff, Nat.reduceAdd, h8, h3, k1, k2, and_true]
    rw [← toL_mkS p.1] at hpk
    refine (Escape_ (mkS p.1) w3.drew (by rw [size_mkS]; have := hpk.1; rw [toL_mkS] at this; omega)).mono ?_
    rintro e w4 ⟨rfl, hb4⟩
    rw [toL_mkS] at hpk ⊢
    have hb34 : Below w3.heap.size w3 w4 := (Below.refl _ _).drew.trans hb4
    simp only [push_cast, Nat.reduceBEq, Nat.reduceLeDiff, Nat.reduceAdd, h8, h3, k1, k2, and_true]
    have l1 := escS_len p.1
    have l2 := escS_len p.2
    have s61 : (⟨#[61]⟩ : ByteArray).size = 1 := rfl
    refine ⟨hCb _ hb34, by rw [size_mkS, s61]; omega, (Escape_ (mkS p.2) w4 (by rw [size_mkS]; omega)).mono ?_⟩
    rintro e w5 ⟨rfl, hb5⟩
    rw [toL_mkS]
    have hb35 := hb34.trans (hb5.mono hb34.size)
    simp only [push_cast, Nat.reduceBEq, Nat.reduceLeDiff, Nat.reduceAdd, h8, h3, k1, k2, and_true]
    refine ⟨hCb _ hb35, by simp only [ByteArray.size_append, size_mkS, s61]; omega, ?_⟩
    have e1 : mkS (escS p.1) ++ ⟨#[61]⟩ ++ mkS (escS p.2) = mkS (oneS p) := by simp only [oneS, mkS_app2]; rfl
    rw [e1]
    simp only [push_cast, Nat.reduceBEq, Nat.reduceLeDiff, Nat.reduceAdd, h8, h3, k1, k2, and_true, bsl34]
    have hb3a : Below w3.heap.size w3 (al w5 [([Value.string (mkS (oneS p))], 9)]) := hb35.trans ((al_below _ _).mono hb35.size)
    have hs5 := hb35.size
    refine ⟨hCb _ hb3a, getR_of (append34g w5 w.heap.size vv ((ps.take k).map oneS) (oneS p) (own_below hown3 hb35) (by omega) (by rw [List.length_map, List.length_take]; omega)) ?_⟩
    rintro v6 w6 ⟨hown6, hb6, hk6⟩
    simp only [push_cast, Nat.reduceBEq, Nat.reduceLeDiff, Nat.reduceAdd, h8, h3]
    refine ⟨?_, hK _ _ ?_⟩
    · rw [hC]
      show w6.heap[w2.heap.size]? = _
      rw [hk6 _ (by omega) (fun e => by have := hgb _ e; omega)]
      exact hb35.block _ (by omega)
    clear hK
    simp only [push_cast, Nat.reduceBEq, Nat.reduceLeDiff, Nat.reduceAdd, h8, h3]
    refine hT (ps.length - (k + 1)) _ _ (by simp only [push_cast, Nat.reduceBEq, Nat.reduceLeDiff]) (by omega) ⟨k + 1, v6, by omega, rfl, ?_, rfl, ?_, ?_⟩
    · simp only [push_cast, Nat.reduceBEq, Nat.reduceLeDiff]; rw [w64 (by omega) (by omega)]
    · rw [htk, List.map_append]; exact hown6
    · exact (hb.trans (hb3.mono hsz)).trans ((hb35.mono (by omega)).trans hb6)
  · have qk : decide ((k : Int) < ps.length) = false := decide_eq_false (by omega)
    simp only [push_cast, Nat.reduceBEq, Nat.reduceLeDiff, Nat.reduceAdd, h8, h3, qk]
    rw [List.take_of_length_le (by omega)] at hown
    refine (join_out _ ⟨#[38]⟩ w2 _ _ hown (by rw [List.length_map]; omega) (fun x hx => ?_) (by decide)).mono ?_
    · obtain ⟨p, hp1, rfl⟩ := List.mem_map.1 hx
      have := oneS_len p (hp p hp1); omega
    rintro e w3 ⟨rfl, hb3⟩
    simp only [push_cast, Nat.reduceBEq, Nat.reduceLeDiff, Nat.reduceAdd]
    exact hR _ _ ⟨rfl, hb.trans (hb3.mono hsz)⟩
end Go.Proofs.YtciepffocobgpaaGreatDoor
/-! Slices held against each other; a slice copied. -/
namespace Go.Proofs.YtciepffocobgpaaGreatDoor
open Go Go.Sx Go.RowKit
set_option linter.unusedSimpArgs false
set_option linter.unusedVariables false
theorem beq_dec (a b : ByteArray) : (a.toList == b.toList) = decide (a = b) := by
  rw [ByteArray.toList_eq, ByteArray.toList_eq]
  by_cases h : a = b
  · subst h; simp
  · rw [decide_eq_false h, beq_eq_false_iff_ne]
    exact fun e => h (toL_inj e)
theorem neq_two (t : TypeId) (f0 f1 : Field) (hf : (Tryz.prog.fieldsOf t).toList = [f0, f1]) (h0 : f0.name ≠ "_") (h1 : f1.name ≠ "_") (t0 : f0.type = 9) (t1 : f1.type = 9) (o0 : f0.offset = 0) (o1 : f1.offset = 1)
    (hg : Tryz.prog.eqGuardType Tryz.prog.depth t = false) (ht : Tryz.prog.underlying t = some (.struct (Tryz.prog.fieldsOf t))) (hp : Tryz.prog.stoodInHeld t = false)
    (a b c d : ByteArray) (g : Bool) (w : World) :
    (binRun .neq t g (.agg #[.string a, .string b]) (.agg #[.string c, .string d])).run Tryz.prog w = .ok (.bool (!(decide (a = c) && decide (b = d)))) w := by
  have e0 : ∀ x y : ByteArray, (part 9 #[.string x, .string y] 0).run Tryz.prog w = .ok (.string x) w := fun x y => by kernel_rfl
  have e1 : ∀ x y : ByteArray, (part 9 #[.string x, .string y] 1).run Tryz.prog w = .ok (.string y) w := fun x y => by kernel_rfl
  simp only [binRun, Sem.run_bind]
  rw [run_eqGuard_agg w .neq t _ _ _ _ hg]
  simp only [Result.andThen_ok]
  rw [run_neq_struct w, run_equalIn_struct w 9999 t _ _ ht hp, hf]
  simp only [Op.eqFields, if_pos h0, if_pos h1, t0, t1, o0, o1, Sem.run_bind, e0, e1, Result.andThen_ok, run_equalIn_string w 9998 9 _ _ Tryz.underlying9, beq_dec, Sem.run_ite]
  cases decide (a = c) <;> cases decide (b = d) <;> rfl
theorem neq41 (a b c d : ByteArray) (g : Bool) (w : World) : (binRun .neq 41 g (.agg #[.string a, .string b]) (.agg #[.string c, .string d])).run Tryz.prog w = .ok (.bool (!(decide (a = c) && decide (b = d)))) w :=
  neq_two 41 ((Tryz.prog.fieldsOf 41).getD 0 default) ((Tryz.prog.fieldsOf 41).getD 1 default) (by kernel_rfl) (by decide +kernel) (by decide +kernel) (by kernel_rfl) (by kernel_rfl) (by kernel_rfl) (by kernel_rfl) (by kernel_rfl) (by kernel_rfl) (by kernel_rfl) a b c d g w
theorem neq38 (a b c d : ByteArray) (g : Bool) (w : World) : (binRun .neq 38 g (.agg #[.string a, .string b]) (.agg #[.string c, .string d])).run Tryz.prog w = .ok (.bool (!(decide (a = c) && decide (b = d)))) w :=
  neq_two 38 ((Tryz.prog.fieldsOf 38).getD 0 default) ((Tryz.prog.fieldsOf 38).getD 1 default) (by kernel_rfl) (by decide +kernel) (by decide +kernel) (by kernel_rfl) (by kernel_rfl) (by kernel_rfl) (by kernel_rfl) (by kernel_rfl) (by kernel_rfl) (by kernel_rfl) a b c d g w
theorem Equal71 (v1 v2 : Value) (ps qs : List Pr) (w : World) (h1 : PairsV w v1 ps) (h2 : PairsV w v2 qs) (hl : qs.length ≤ 1000000) :
    Calls Tryz.prog 71 #[v1, v2] w fun e w' => e = .returned (.bool (decide (ps = qs))) ∧ Below w.heap.size w w' := by
  obtain ⟨A1, c1, rfl, hc1⟩ := h1
  obtain ⟨A2, c2, rfl, hc2⟩ := h2
  refine calls_X Tryz.func71 rfl Tryz.ntmps71 Tryz.results71 rfl rfl (by kernel_rfl) fun R hR => ?_
  by_cases hlen : ps.length = qs.length
  case neg =>
    have q1 : decide ((ps.length : Int) ≠ qs.length) = true := decide_eq_true (by omega)
    simp only [push_cast, Nat.reduceBEq, Nat.reduceLeDiff, Nat.reduceAdd, q1]
    exact hR _ _ ⟨by rw [decide_eq_false (fun he => hlen (by rw [he]))], Below.refl _ _⟩
  have q1 : decide ((ps.length : Int) ≠ qs.length) = false := decide_eq_false (by omega)
  simp only [push_cast, Nat.reduceBEq, Nat.reduceLeDiff, Nat.reduceAdd, q1]
  refine law_loop [(4, 5), (13, 25)] (fun n h w' => ∃ k : Nat, k ≤ ps.length ∧ n = ps.length - k ∧ h 13 = .int .i64 k ∧ ps.take k = qs.take k ∧ Below w.heap.size w w') ps.length ⟨0, by omega, by omega, rfl, by simp, Below.refl _ _⟩ ?_
  rintro n h w2 ⟨k, hk, hn, h13, htk, hb⟩ T hT
  have hsz := hb.size
  by_cases hkl : k < ps.length
  · have qk : decide ((k : Int) < ps.length) = true := decide_eq_true (by omega)
    have hkl2 : k < qs.length := by omega
    obtain ⟨b1, o1, rfl, hb1, a1, a2⟩ := hc1 k _ (List.getElem?_eq_getElem hkl)
    obtain ⟨b2, o2, rfl, hb2, d1, d2⟩ := hc2 k _ (List.getElem?_eq_getElem hkl2)
    have tp := List.take_succ_eq_append_getElem hkl
    have tq := List.take_succ_eq_append_getElem hkl2
    generalize hpp : ps[k] = p at a1 a2 tp
    generalize hqq : qs[k] = q at d1 d2 tq
    rw [← hb.cell (p := ⟨b1, _, none⟩) hb1] at a1 a2
    rw [← hb.cell (p := ⟨b2, _, none⟩) hb2] at d1 d2
    have k1 : cellC (Below w2.heap.size w2) ⟨b1, _, none⟩ = _ := cellC_below (show b1 < _ by omega) a1
    have k2 : cellC (Below w2.heap.size w2) ⟨b1, _, none⟩ = _ := cellC_below (show b1 < _ by omega) a2
    have k3 : cellC (Below w2.heap.size w2) ⟨b2, _, none⟩ = _ := cellC_below (show b2 < _ by omega) d1
    have k4 : cellC (Below w2.heap.size w2) ⟨b2, _, none⟩ = _ := cellC_below (show b2 < _ by omega) d2
    simp only [push_cast, Nat.reduceBEq, Nat.reduceLeDiff, Nat.reduceAdd, h13, qk]
    refine law_planK (Below w2.heap.size w2) (.take 0 (.take 1 (.take 2 (.take 3 (.take 4 (.take 5 (.take 6 (.take 7 (.take 8 (.done)))))))))) (by kernel_rfl) (by kernel_rfl) (by kernel_rfl) (Below.refl _ _).drew ?_
    intro K hK
    have nq : ∀ (g : Bool) K, binQ Tryz.prog .neq 41 g (.agg #[.string (mkS p.1), .string (mkS p.2)]) (.agg #[.string (mkS q.1), .string (mkS q.2)]) K = K (.bool (!(decide (mkS p.1 = mkS q.1) && decide (mkS p.2 = mkS q.2)))) := fun g K => binQ_eq (fun w => neq41 _ _ _ _ g w) K
    have eb : (decide (mkS p.1 = mkS q.1) && decide (mkS p.2 = mkS q.2)) = decide (p = q) := by
      rw [Bool.eq_iff_iff, Bool.and_eq_true, decide_eq_true_iff, decide_eq_true_iff, decide_eq_true_iff]
      exact ⟨fun h => Prod.ext (mkS_inj h.1) (mkS_inj h.2), fun h => by rw [h]; exact ⟨rfl, rfl⟩⟩
    rw [eb] at nq
    simp only [push_cast, Nat.reduceBEq, Nat.reduceLeDiff, Nat.reduceAdd, h13, k1, k2, k3, k4, nq, and_true]
    refine ⟨⟨by omega, by omega⟩, ⟨by omega, by omega⟩, hK _ _ ?_⟩
    clear hK
    by_cases hpq : p = q
    · rw [decide_eq_true hpq]
      simp only [push_cast, Nat.reduceBEq, Nat.reduceLeDiff, Nat.reduceAdd, h13]
      refine hT (ps.length - (k + 1)) _ _ (by simp only [push_cast, Nat.reduceBEq, Nat.reduceLeDiff]) (by omega) ⟨k + 1, by omega, rfl, ?_, ?_, hb.drew⟩
      · simp only [push_cast, Nat.reduceBEq, Nat.reduceLeDiff]; rw [w64 (by omega) (by omega)]
      · rw [tp, tq, htk, hpq]
    · rw [decide_eq_false hpq]
      simp only [push_cast, Nat.reduceBEq, Nat.reduceLeDiff, Nat.reduceAdd, h13]
      exact hR _ _ ⟨by rw [decide_eq_false (fun he => hpq (by subst he; exact hpp.symm.trans hqq))], hb.drew⟩
  · have qk : decide ((k : Int) < ps.length) = false := decide_eq_false (by omega)
    simp only [push_cast, Nat.reduceBEq, Nat.reduceLeDiff, Nat.reduceAdd, h13, qk]
    rw [List.take_of_length_le (by omega), List.take_of_length_le (by omega)] at htk
    exact hR _ _ ⟨by rw [decide_eq_true htk], hb⟩
theorem Equal72 (v1 v2 : Value) (ps qs : List Pr) (w : World) (h1 : PairsV w v1 ps) (h2 : PairsV w v2 qs) (hl : qs.length ≤ 1000000) :
    Calls Tryz.prog 72 #[v1, v2] w fun e w' => e = .returned (.bool (decide (ps = qs))) ∧ Below w.heap.size w w' := by
  obtain ⟨A1, c1, rfl, hc1⟩ := h1
  obtain ⟨A2, c2, rfl, hc2⟩ := h2
  refine calls_X Tryz.func72 rfl Tryz.ntmps72 Tryz.results72 rfl rfl (by kernel_rfl) fun R hR => ?_
  by_cases hlen : ps.length = qs.length
  case neg =>
    have q1 : decide ((ps.length : Int) ≠ qs.length) = true := decide_eq_true (by omega)
    simp only [push_cast, Nat.reduceBEq, Nat.reduceLeDiff, Nat.reduceAdd, q1]
    exact hR _ _ ⟨by rw [decide_eq_false (fun he => hlen (by rw [he]))], Below.refl _ _⟩
  have q1 : decide ((ps.length : Int) ≠ qs.length) = false := decide_eq_false (by omega)
  simp only [push_cast, Nat.reduceBEq, Nat.reduceLeDiff, Nat.reduceAdd, q1]
  refine law_loop [(4, 5), (13, 25)] (fun n h w' => ∃ k : Nat, k ≤ ps.length ∧ n = ps.length - k ∧ h 13 = .int .i64 k ∧ ps.take k = qs.take k ∧ Below w.heap.size w w') ps.length ⟨0, by omega, by omega, rfl, by simp, Below.refl _ _⟩ ?_
  rintro n h w2 ⟨k, hk, hn, h13, htk, hb⟩ T hT
  have hsz := hb.size
  by_cases hkl : k < ps.length
  · have qk : decide ((k : Int) < ps.length) = true := decide_eq_true (by omega)
    have hkl2 : k < qs.length := by omega
    obtain ⟨b1, o1, rfl, hb1, a1, a2⟩ := hc1 k _ (List.getElem?_eq_getElem hkl)
    obtain ⟨b2, o2, rfl, hb2, d1, d2⟩ := hc2 k _ (List.getElem?_eq_getElem hkl2)
    have tp := List.take_succ_eq_append_getElem hkl
    have tq := List.take_succ_eq_append_getElem hkl2
    generalize hpp : ps[k] = p at a1 a2 tp
    generalize hqq : qs[k] = q at d1 d2 tq
    rw [← hb.cell (p := ⟨b1, _, none⟩) hb1] at a1 a2
    rw [← hb.cell (p := ⟨b2, _, none⟩) hb2] at d1 d2
    have k1 : cellC (Below w2.heap.size w2) ⟨b1, _, none⟩ = _ := cellC_below (show b1 < _ by omega) a1
    have k2 : cellC (Below w2.heap.size w2) ⟨b1, _, none⟩ = _ := cellC_below (show b1 < _ by omega) a2
    have k3 : cellC (Below w2.heap.size w2) ⟨b2, _, none⟩ = _ := cellC_below (show b2 < _ by omega) d1
    have k4 : cellC (Below w2.heap.size w2) ⟨b2, _, none⟩ = _ := cellC_below (show b2 < _ by omega) d2
    simp only [push_cast, Nat.reduceBEq, Nat.reduceLeDiff, Nat.reduceAdd, h13, qk]
    refine law_planK (Below w2.heap.size w2) (.take 0 (.take 1 (.take 2 (.take 3 (.take 4 (.take 5 (.take 6 (.take 7 (.take 8 (.done)))))))))) (by kernel_rfl) (by kernel_rfl) (by kernel_rfl) (Below.refl _ _).drew ?_
    intro K hK
    have nq : ∀ (g : Bool) K, binQ Tryz.prog .neq 38 g (.agg #[.string (mkS p.1), .string (mkS p.2)]) (.agg #[.string (mkS q.1), .string (mkS q.2)]) K = K (.bool (!(decide (mkS p.1 = mkS q.1) && decide (mkS p.2 = mkS q.2)))) := fun g K => binQ_eq (fun w => neq38 _ _ _ _ g w) K
    have eb : (decide (mkS p.1 = mkS q.1) && decide (mkS p.2 = mkS q.2)) = decide (p = q) := by
      rw [Bool.eq_iff_iff, Bool.and_eq_true, decide_eq_true_iff, decide_eq_true_iff, decide_eq_true_iff]
      exact ⟨fun h => Prod.ext (mkS_inj h.1) (mkS_inj h.2), fun h => by rw [h]; exact ⟨rfl, rfl⟩⟩
    rw [eb] at nq
    simp only [push_cast, Nat.reduceBEq, Nat.reduceLeDiff, Nat.reduceAdd, h13, k1, k2, k3, k4, nq, and_true]
    refine ⟨⟨by omega, by omega⟩, ⟨by omega, by omega⟩, hK _ _ ?_⟩
    clear hK
    by_cases hpq : p = q
    · rw [decide_eq_true hpq]
      simp only [push_cast, Nat.reduceBEq, Nat.reduceLeDiff, Nat.reduceAdd, h13]
      refine hT (ps.length - (k + 1)) _ _ (by simp only [push_cast, Nat.reduceBEq, Nat.reduceLeDiff]) (by omega) ⟨k + 1, by omega, rfl, ?_, ?_, hb.drew⟩
      · simp only [push_cast, Nat.reduceBEq, Nat.reduceLeDiff]; rw [w64 (by omega) (by omega)]
      · rw [tp, tq, htk, hpq]
    · rw [decide_eq_false hpq]
      simp only [push_cast, Nat.reduceBEq, Nat.reduceLeDiff, Nat.reduceAdd, h13]
      exact hR _ _ ⟨by rw [decide_eq_false (fun he => hpq (by subst he; exact hpp.symm.trans hqq))], hb.drew⟩
  · have qk : decide ((k : Int) < ps.length) = false := decide_eq_false (by omega)
    simp only [push_cast, Nat.reduceBEq, Nat.reduceLeDiff, Nat.reduceAdd, h13, qk]
    rw [List.take_of_length_le (by omega), List.take_of_length_le (by omega)] at htk
    exact hR _ _ ⟨by rw [decide_eq_true htk], hb⟩
theorem Equal73 (v1 v2 : Value) (ps qs : Bytes) (w : World) (h1 : BytesAt w v1 ps) (h2 : BytesAt w v2 qs) (hl : qs.length ≤ 1000000000) :
    Calls Tryz.prog 73 #[v1, v2] w fun e w' => e = .returned (.bool (decide (ps = qs))) ∧ Below w.heap.size w w' := by
  obtain ⟨A1, c1, rfl, hc1⟩ := bytesAt_shape h1
  obtain ⟨A2, c2, rfl, hc2⟩ := bytesAt_shape h2
  refine calls_X Tryz.func73 rfl Tryz.ntmps73 Tryz.results73 rfl rfl (by kernel_rfl) fun R hR => ?_
  by_cases hlen : ps.length = qs.length
  case neg =>
    have q1 : decide ((ps.length : Int) ≠ qs.length) = true := decide_eq_true (by omega)
    simp only [push_cast, Nat.reduceBEq, Nat.reduceLeDiff, Nat.reduceAdd, q1]
    exact hR _ _ ⟨by rw [decide_eq_false (fun he => hlen (by rw [he]))], Below.refl _ _⟩
  have q1 : decide ((ps.length : Int) ≠ qs.length) = false := decide_eq_false (by omega)
  simp only [push_cast, Nat.reduceBEq, Nat.reduceLeDiff, Nat.reduceAdd, q1]
  refine law_loop [(4, 5), (13, 25)] (fun n h w' => ∃ k : Nat, k ≤ ps.length ∧ n = ps.length - k ∧ h 13 = .int .i64 k ∧ ps.take k = qs.take k ∧ Below w.heap.size w w') ps.length ⟨0, by omega, by omega, rfl, by simp, Below.refl _ _⟩ ?_
  rintro n h w2 ⟨k, hk, hn, h13, htk, hb⟩ T hT
  have hsz := hb.size
  by_cases hkl : k < ps.length
  · have qk : decide ((k : Int) < ps.length) = true := decide_eq_true (by omega)
    have hkl2 : k < qs.length := by omega
    obtain ⟨b1, o1, rfl, hb1, a1⟩ := hc1 k _ (List.getElem?_eq_getElem hkl)
    obtain ⟨b2, o2, rfl, hb2, d1⟩ := hc2 k _ (List.getElem?_eq_getElem hkl2)
    have tp := List.take_succ_eq_append_getElem hkl
    have tq := List.take_succ_eq_append_getElem hkl2
    generalize hpp : ps[k] = p at a1 tp
    generalize hqq : qs[k] = q at d1 tq
    rw [← hb.cell (p := ⟨b1, _, none⟩) hb1, ← Nat.mul_one k] at a1
    rw [← hb.cell (p := ⟨b2, _, none⟩) hb2, ← Nat.mul_one k] at d1
    have k1 : cellC (Below w2.heap.size w2) ⟨b1, o1 + k * 1, none⟩ = _ := cellC_below (show b1 < _ by omega) a1
    have k3 : cellC (Below w2.heap.size w2) ⟨b2, o2 + k * 1, none⟩ = _ := cellC_below (show b2 < _ by omega) d1
    simp only [push_cast, Nat.reduceBEq, Nat.reduceLeDiff, Nat.reduceAdd, h13, qk]
    refine law_planK (Below w2.heap.size w2) (.take 0 (.take 1 (.take 2 (.take 3 (.take 4 (.take 5 (.take 6 (.take 7 (.take 8 (.done)))))))))) (by kernel_rfl) (by kernel_rfl) (by kernel_rfl) (Below.refl _ _).drew ?_
    intro K hK
    simp only [push_cast, Nat.reduceBEq, Nat.reduceLeDiff, Nat.reduceAdd, h13, k1, k3, and_true]
    refine ⟨⟨by omega, by omega⟩, ⟨by omega, by omega⟩, hK _ _ ?_⟩
    clear hK
    by_cases hpq : p = q
    · have q3 : decide ((p.toNat : Int) ≠ q.toNat) = false := decide_eq_false (fun hh => hh ((u8_eq p q).2 hpq))
      simp only [push_cast, Nat.reduceBEq, Nat.reduceLeDiff, Nat.reduceAdd, h13, q3]
      refine hT (ps.length - (k + 1)) _ _ (by simp only [push_cast, Nat.reduceBEq, Nat.reduceLeDiff]) (by omega) ⟨k + 1, by omega, rfl, ?_, ?_, hb.drew⟩
      · simp only [push_cast, Nat.reduceBEq, Nat.reduceLeDiff]; rw [w64 (by omega) (by omega)]
      · rw [tp, tq, htk, hpq]
    · have q3 : decide ((p.toNat : Int) ≠ q.toNat) = true := decide_eq_true (fun hh => hpq ((u8_eq p q).1 hh))
      simp only [push_cast, Nat.reduceBEq, Nat.reduceLeDiff, Nat.reduceAdd, h13, q3]
      exact hR _ _ ⟨by rw [decide_eq_false (fun he => hpq (by subst he; exact hpp.symm.trans hqq))], hb.drew⟩
  · have qk : decide ((k : Int) < ps.length) = false := decide_eq_false (by omega)
    simp only [push_cast, Nat.reduceBEq, Nat.reduceLeDiff, Nat.reduceAdd, h13, qk]
    rw [List.take_of_length_le (by omega), List.take_of_length_le (by omega)] at htk
    exact hR _ _ ⟨by rw [decide_eq_true htk], hb⟩
theorem bsl25_0 (w : World) : Sem.run Tryz.prog (Instr.buildSlice 25 0 #[]) w = .ok (.slice (some ⟨w.heap.size, 0, none⟩) 0 0) (w.alloc (.cells #[] 38)) := by kernel_rfl
theorem eql_nil25 (A : Option Addr) (n m : Nat) (w : World) (c : Cont) : ap Tryz.prog (.bin .eql 25 true) [.slice A n m, .slice none 0 0] w c = c.K (.bool A.isNone) w := by
  have h : (binRun .eql 25 true (.slice A n m) (.slice none 0 0)).run Tryz.prog w = .ok (.bool A.isNone) w := by cases A <;> kernel_rfl
  show getR ((binRun .eql 25 true (.slice A n m) (.slice none 0 0)).run Tryz.prog w) c = _
  rw [h]
  exact propext ⟨fun ⟨v, w', hh, hk⟩ => by cases hh; exact hk, fun hk => ⟨_, _, rfl, hk⟩⟩
theorem append25x (w : World) (a : Addr) (ps : List Pr) (c : Nat) (hc : ∀ (j : Nat) x, (pairCells ps)[j]? = some x → w.cell? (a.add j) = some x) (hl : ps.length ≤ 1000000) :
    ∃ v' w', Sem.run Tryz.prog (Builtin.append_ #[25, 25] 25 #[.slice (some ⟨w.heap.size, 0, none⟩) 0 0, .slice (some a) ps.length c]) (al w [([], 38)]) = .ok v' w' ∧
      (w'.ownsRow w.heap.size 38 2 v' ps.length (pairCells ps) ∧ Below w.heap.size w w') := by
  obtain ⟨i0, hi, hz0, hz1, hz2⟩ := info_parts info38
  have hown : (al w [([], 38)]).ownsRow w.heap.size 38 2 (.slice (some ⟨w.heap.size, 0, none⟩) 0 0) 0 [] :=
    ⟨rfl, .inr ⟨w.heap.size, 0, #[], rfl, Nat.le_refl _, (al_heap_new w _ 0).trans rfl, Nat.le_refl _, by decide, rfl, rfl⟩⟩
  have hlen := pairCells_len ps
  obtain ⟨v', w', h1, h2, h3, _⟩ := run_append_own (P := Tryz.prog) (al w [([], 38)]) w.heap.size 25 25 38 i0 (.agg #[.string ⟨#[]⟩, .string ⟨#[]⟩]) 2 32 Tryz.underlying25 hi hz0 hz1 hz2 rfl (by decide) (.slice (some ⟨w.heap.size, 0, none⟩) 0 0) 0 [] hown a ps.length c (pairCells ps) hlen (fun j u hj => (al_cell_old w _ _ (World.block_lt_of_cell? w _ (hc j u hj))).trans (hc j u hj)) (fun u hu => by
      obtain ⟨p, _, hp⟩ := List.mem_flatMap.1 hu
      simp at hp
      rcases hp with rfl | rfl <;> rfl) (by unfold maxLen; omega) (by omega) (by rw [al_size]; omega)
  rw [Nat.zero_add, List.nil_append] at h2
  exact ⟨v', w', h1, h2, Below.grown (al_below w _) h3 (by rw [al_size]; omega) (own_row hown)⟩
theorem Clone_ (v : Value) (ps : List Pr) (w : World) (h1 : PairsV w v ps) (hl : ps.length ≤ 1000000) :
    Calls Tryz.prog 37 #[v] w fun e w' => ∃ v', e = .returned v' ∧ w'.ownsRow w.heap.size 38 2 v' ps.length (pairCells ps) ∧ Below w.heap.size w w' := by
  have h1' := h1
  obtain ⟨A1, c1, rfl, hc1⟩ := h1
  refine calls_X Tryz.func37 rfl Tryz.ntmps37 Tryz.results37 rfl rfl (by kernel_rfl) fun R hR => ?_
  cases A1 with
  | none =>
    obtain rfl : ps = [] := by
      cases ps with
      | nil => rfl
      | cons p r => obtain ⟨b, o, hh, _⟩ := hc1 0 p rfl; cases hh
    simp only [push_cast, Nat.reduceBEq, Nat.reduceLeDiff, Nat.reduceAdd, eql_nil25, Option.isNone_none]
    exact hR _ _ ⟨_, rfl, World.ownsRow_nil _ _ _ _, Below.refl _ _⟩
  | some a =>
    simp only [push_cast, Nat.reduceBEq, Nat.reduceLeDiff, Nat.reduceAdd, eql_nil25, Option.isNone_some, bsl25_0]
    refine getR_of (append25x w a ps c1 (fun j x hj => ?_) hl) ?_
    · have hjl := (List.getElem?_eq_some_iff.1 hj).1
      rw [pairCells_len] at hjl
      have hj2 : j / 2 < ps.length := by omega
      obtain ⟨b, o, hab, hb, d1, d2⟩ := hc1 (j / 2) _ (List.getElem?_eq_getElem hj2)
      obtain ⟨g1, g2⟩ := pairCells_get ps (j / 2) _ (List.getElem?_eq_getElem hj2)
      cases hab
      rw [Addr.add_lit]
      rcases Nat.mod_two_eq_zero_or_one j with hm | hm
      · have e : j / 2 * 2 = j := by omega
        rw [e] at d1 g1
        rw [hj] at g1; cases g1; exact d1
      · have e : j / 2 * 2 + 1 = j := by omega
        rw [Nat.add_assoc, e] at d2
        rw [e] at g2
        rw [hj] at g2; cases g2; exact d2
    rintro v' w2 ⟨hown, hb⟩
    simp only [push_cast, Nat.reduceBEq, Nat.reduceLeDiff, Nat.reduceAdd]
    exact hR _ _ ⟨_, rfl, hown, hb⟩
end Go.Proofs.YtciepffocobgpaaGreatDoor
/-! Requests held against each other; a request's bytes. -/
namespace Go.Proofs.YtciepffocobgpaaGreatDoor
open Go Go.Sx Go.RowKit
set_option linter.unusedSimpArgs false
set_option linter.unusedVariables false
def ReqAt (w : World) (v : Value) (r : Req) : Prop := ∃ vq vh vb, v = .agg #[.string (mkS r.method), .string (mkS r.path), vq, vh, vb] ∧ PairsV w vq r.query ∧ PairsV w vh r.hdrs ∧ BytesAt w vb r.body
theorem reqAt_below {w w' : World} {v : Value} {r : Req} (h : ReqAt w v r) (hb : Below w.heap.size w w') : ReqAt w' v r := by
  obtain ⟨vq, vh, vb, h1, h2, h3, h4⟩ := h
  exact ⟨vq, vh, vb, h1, pairsV_below h2 hb, pairsV_below h3 hb, bytesAt_below h4 hb⟩
theorem dec_mkS (a b : Bytes) : decide (mkS a = mkS b) = decide (a = b) := by
  by_cases h : a = b
  · subst h; rw [decide_eq_true rfl, decide_eq_true rfl]
  · rw [decide_eq_false h, decide_eq_false (fun e => h (mkS_inj e))]
set_option maxRecDepth 20000 in
theorem same_ (v1 v2 : Value) (r1 r2 : Req) (w : World) (h1 : ReqAt w v1 r1) (h2 : ReqAt w v2 r2) (l1 : r2.query.length ≤ 1000000) (l2 : r2.hdrs.length ≤ 1000000) (l3 : r2.body.length ≤ 1000000) :
    Calls Tryz.prog 38 #[v1, v2] w fun e w' => ∃ b, e = .returned (.bool b) ∧ ((b = true) ↔ (r1 = r2)) ∧ Below w.heap.size w w' := by
  obtain ⟨vq1, vh1, vb1, rfl, q1, h1, b1⟩ := h1
  obtain ⟨vq2, vh2, vb2, rfl, q2, h2, b2⟩ := h2
  obtain ⟨z1, z2⟩ := cl_pairsV q1
  obtain ⟨z3, z4⟩ := cl_pairsV h1
  obtain ⟨z5, z6⟩ := cl_bytes b1
  obtain ⟨z7, z8⟩ := cl_pairsV q2
  obtain ⟨z9, z10⟩ := cl_pairsV h2
  obtain ⟨z11, z12⟩ := cl_bytes b2
  refine calls_X Tryz.func38 rfl Tryz.ntmps38 Tryz.results38 rfl rfl (by kernel_rfl) fun R hR => ?_
  obtain ⟨m1, p1, qs1, hs1, bs1⟩ := r1
  obtain ⟨m2, p2, qs2, hs2, bs2⟩ := r2
  simp only at *
  by_cases e1 : m1 = m2
  case neg =>
    have d1 : decide (mkS m1 = mkS m2) = false := by rw [dec_mkS, decide_eq_false e1]
    simp only [push_cast, Nat.reduceBEq, Nat.reduceLeDiff, Nat.reduceAdd, z1, z2, z3, z4, z5, z6, z7, z8, z9, z10, z11, z12, d1]
    exact hR _ _ ⟨_, rfl, ⟨fun h => (by cases h), fun h => (by cases h; exact absurd rfl e1)⟩, al_below _ _⟩
  have d1 : decide (mkS m1 = mkS m2) = true := by rw [dec_mkS, decide_eq_true e1]
  by_cases e2 : p1 = p2
  case neg =>
    have d2 : decide (mkS p1 = mkS p2) = false := by rw [dec_mkS, decide_eq_false e2]
    simp only [push_cast, Nat.reduceBEq, Nat.reduceLeDiff, Nat.reduceAdd, z1, z2, z3, z4, z5, z6, z7, z8, z9, z10, z11, z12, d1, d2]
    exact hR _ _ ⟨_, rfl, ⟨fun h => (by cases h), fun h => (by cases h; exact absurd rfl e2)⟩, al_below _ _⟩
  have d2 : decide (mkS p1 = mkS p2) = true := by rw [dec_mkS, decide_eq_true e2]
  simp only [push_cast, Nat.reduceBEq, Nat.reduceLeDiff, Nat.reduceAdd, z1, z2, z3, z4, z5, z6, z7, z8, z9, z10, z11, z12, d1, d2]
  obtain ⟨w1, hw1⟩ : ∃ w1, w1 = al w [([Value.string (mkS m1), Value.string (mkS p1), vq1, vh1, vb1], 27), ([Value.string (mkS m2), Value.string (mkS p2), vq2, vh2, vb2], 27)] := ⟨_, rfl⟩
  rw [← hw1]
  have hz1 : w1.heap.size = w.heap.size + 2 := by rw [hw1, al_size]; rfl
  have hb1 : Below w.heap.size w w1 := hw1 ▸ al_below _ _
  have c13 : w1.cell? ⟨w.heap.size, 3, none⟩ = some vh1 := by rw [hw1]; exact al_cell0 ..
  have c14 : w1.cell? ⟨w.heap.size, 4, none⟩ = some vb1 := by rw [hw1]; exact al_cell0 ..
  have c23 : w1.cell? ⟨w.heap.size + 1, 3, none⟩ = some vh2 := by rw [hw1]; exact al_cell ..
  have c24 : w1.cell? ⟨w.heap.size + 1, 4, none⟩ = some vb2 := by rw [hw1]; exact al_cell ..
  clear hw1
  refine (Equal71 vq1 vq2 qs1 qs2 w1 (pairsV_below q1 hb1) (pairsV_below q2 hb1) l1).mono ?_
  rintro e w2 ⟨rfl, hb2⟩
  have hb02 := hb1.trans (hb2.mono hb1.size)
  have s2 := hb2.size
  rw [← hb2.cell (p := ⟨w.heap.size, _, none⟩) (show w.heap.size < _ by omega)] at c13 c14
  rw [← hb2.cell (p := ⟨w.heap.size + 1, _, none⟩) (show w.heap.size + 1 < _ by omega)] at c23 c24
  by_cases e3 : qs1 = qs2
  case neg =>
    rw [decide_eq_false e3]
    simp only [push_cast, Nat.reduceBEq, Nat.reduceLeDiff, Nat.reduceAdd]
    exact hR _ _ ⟨_, rfl, ⟨fun h => (by cases h), fun h => (by cases h; exact absurd rfl e3)⟩, hb02⟩
  rw [decide_eq_true e3]
  simp only [push_cast, Nat.reduceBEq, Nat.reduceLeDiff, Nat.reduceAdd, c13, c14, c23, c24]
  refine (Equal72 vh1 vh2 hs1 hs2 w2 (pairsV_below h1 hb02) (pairsV_below h2 hb02) l2).mono ?_
  rintro e w3 ⟨rfl, hb3⟩
  have hb03 := hb02.trans (hb3.mono hb02.size)
  have s3 := hb3.size
  rw [← hb3.cell (p := ⟨w.heap.size, _, none⟩) (show w.heap.size < _ by omega)] at c13 c14
  rw [← hb3.cell (p := ⟨w.heap.size + 1, _, none⟩) (show w.heap.size + 1 < _ by omega)] at c23 c24
  by_cases e4 : hs1 = hs2
  case neg =>
    rw [decide_eq_false e4]
    simp only [push_cast, Nat.reduceBEq, Nat.reduceLeDiff, Nat.reduceAdd]
    exact hR _ _ ⟨_, rfl, ⟨fun h => (by cases h), fun h => (by cases h; exact absurd rfl e4)⟩, hb03⟩
  rw [decide_eq_true e4]
  simp only [push_cast, Nat.reduceBEq, Nat.reduceLeDiff, Nat.reduceAdd, c13, c14, c23, c24]
  refine (Equal73 vb1 vb2 bs1 bs2 w3 (bytesAt_below b1 hb03) (bytesAt_below b2 hb03) (by omega)).mono ?_
  rintro e w4 ⟨rfl, hb4⟩
  have hb04 := hb03.trans (hb4.mono hb03.size)
  simp only [push_cast, Nat.reduceBEq, Nat.reduceLeDiff, Nat.reduceAdd]
  refine hR _ _ ⟨_, rfl, ?_, hb04⟩
  rw [decide_eq_true_iff]
  exact ⟨fun h => by rw [e1, e2, e3, e4, h], fun h => by cases h; rfl⟩
end Go.Proofs.YtciepffocobgpaaGreatDoor
/-! A request's bytes. -/
namespace Go.Sx
open Go
/-- What follows a statement, known by an invariant alone. -/
theorem at_cond {P : Program} {N : Nat} {a b : Code} {Kr : Env → World → Prop} {Q : Post} {e : Env} {w : World} {v : Value} (I : Env → World → Prop)
    (h : ∀ K : Env → World → Prop, (∀ e w, I e w → K e w) → condC P N a b (seqP K Q) e w v) (hb : ∀ e w, I e w → Kr e w) : condC P N a b (seqP Kr Q) e w v := h Kr hb
theorem cutT {G : Prop} {I T : Env → World → Prop} (h : (∀ E W, I E W → T E W) → G) (t : ∀ E W, I E W → T E W) : G := h t
end Go.Sx
namespace Go.Proofs.YtciepffocobgpaaGreatDoor
open Go Go.Sx Go.RowKit
set_option linter.unusedSimpArgs false
set_option linter.unusedVariables false
def addH (r : Req) : List Pr := if getP r.hdrs clen = none ∧ r.body ≠ [] then r.hdrs ++ [(clen, Lib.decDigits r.body.length)] else r.hdrs
def targetB (r : Req) : Bytes := if r.query = [] then r.path else r.path ++ 63 :: showS r.query
def reqB (r : Req) : Bytes := r.method ++ [32] ++ targetB r ++ [32] ++ version ++ [13, 10] ++ hlsS (addH r) ++ [13, 10] ++ r.body
def wire (r : Req) : Req := { r with hdrs := addH r }
def ReqR (r : Req) (e : Ending) (w' : World) : Prop :=
  (reqS (reqB r) = .ok (wire r) ∧ ∃ v, e = .returned (.tuple #[v, .int .i64 0]) ∧ BytesAt w' v (reqB r)) ∨
  (reqS (reqB r) ≠ .ok (wire r) ∧ e = .returned (.tuple #[.slice none 0 0, .int .i64 10]))
structure Mild (r : Req) : Prop where
  m : r.method.length ≤ 1000
  p : r.path.length ≤ 1000
  q : r.query.length ≤ 100
  qs : ∀ p ∈ r.query, p.1.length ≤ 1000 ∧ p.2.length ≤ 1000
  h : r.hdrs.length ≤ 100
  hs : ∀ p ∈ r.hdrs, p.1.length ≤ 1000 ∧ p.2.length ≤ 1000
  b : r.body.length ≤ 100000
theorem showS_len (ps : List Pr) (hl : ps.length ≤ 100) (hp : ∀ p ∈ ps, p.1.length ≤ 1000 ∧ p.2.length ≤ 1000) : (showS ps).length ≤ 100000000 := by
  have h1 := join_len [38] 600001 (ps.map oneS) (fun x hx => by obtain ⟨p, hq, rfl⟩ := List.mem_map.1 hx; exact oneS_len p (by have := hp p hq; omega))
  rw [List.length_map] at h1
  have h2 : ps.length * (600001 + 1) ≤ 100 * 600002 := Nat.mul_le_mul_right _ hl
  exact Nat.le_trans h1 (Nat.le_trans h2 (by decide))
theorem targetB_len (r : Req) (hr : Mild r) : (targetB r).length ≤ 200000000 := by
  have h1 := showS_len r.query hr.q hr.qs
  have h2 := hr.p
  unfold targetB
  split
  · omega
  · simp only [List.length_append, List.length_cons]; omega
theorem addH_len (r : Req) (hr : Mild r) : (addH r).length ≤ 101 ∧ ∀ p ∈ addH r, p.1.length ≤ 100000 ∧ p.2.length ≤ 100000 := by
  have h1 := hr.h
  have h2 : ∀ p ∈ r.hdrs, p.1.length ≤ 100000 ∧ p.2.length ≤ 100000 := fun p hp => by have := hr.hs p hp; omega
  have h3 := hr.b
  unfold addH
  split
  · refine ⟨by simp; omega, fun p hp => ?_⟩
    rcases List.mem_append.1 hp with hp | hp
    · exact h2 p hp
    · rw [List.mem_singleton] at hp
      subst hp
      have := dd_len 5 r.body.length (by omega)
      exact ⟨show clen.length ≤ 100000 by decide, show (Lib.decDigits r.body.length).length ≤ 100000 by omega⟩
  · exact ⟨by omega, h2⟩
set_option maxRecDepth 20000 in
set_option maxHeartbeats 2000000 in
theorem ReqBytes_ (v : Value) (r : Req) (w : World) (hv : ReqAt w v r) (hr : Mild r) (hG : G w) :
    Calls Tryz.prog 17 #[v] w fun e w' => ReqR r e w' ∧ Below w.heap.size w w' := by
  obtain ⟨vq, vh, vb, rfl, pq, ph, pb⟩ := hv
  obtain ⟨z1, z2⟩ := cl_pairsV pq
  obtain ⟨z3, z4⟩ := cl_pairsV ph
  obtain ⟨z5, z6⟩ := cl_bytes pb
  refine calls_X Tryz.func17 rfl Tryz.ntmps17 Tryz.results17 rfl rfl (by kernel_rfl) fun R hR => ?_
  obtain ⟨A, c, hvq, hcq⟩ := id pq
  obtain ⟨v16, h16⟩ : ∃ v, Value.bool (decide ((r.query.length : Int) > 0)) = v := ⟨_, rfl⟩
  simp only [push_cast, Nat.reduceBEq, Nat.reduceLeDiff, Nat.reduceAdd, h16, z1, z2, z3, z4, z5, z6, hvq]
  rw [← hvq] at *
  clear hcq
  obtain ⟨w1, hw1⟩ : ∃ w1, w1 = al w [([Value.string (mkS r.method), Value.string (mkS r.path), vq, vh, vb], 27)] := ⟨_, rfl⟩
  have hz1 : w1.heap.size = w.heap.size + 1 := by rw [hw1, al_size]; rfl
  have hb1 : Below w.heap.size w w1 := hw1 ▸ al_below _ _
  have hcell : ∀ W, Below w1.heap.size w1 W → ∀ i, W.cell? ⟨w.heap.size, i, none⟩ = [Value.string (mkS r.method), Value.string (mkS r.path), vq, vh, vb][i]? ∧ W.frozen? ⟨w.heap.size, i, none⟩ = false := fun W hW i => new_cell (by rw [← hw1]; exact hW) (by omega) i
  rw [← hw1]
  clear hw1
  have hQ : ∀ p ∈ r.query, p.1.length ≤ 100000 ∧ p.2.length ≤ 100000 := fun p hp => by have := hr.qs p hp; omega
  have hrq := hr.q
  have hrp := hr.p
  have hrm := hr.m
  have hrb := hr.b
  have hrh := hr.h
  refine at_cond (fun E W => E 1 = .pointer (some ⟨w.heap.size, 0, none⟩) ∧ E 4 = .string (mkS (targetB r)) ∧ Below w1.heap.size w1 W) ?_ ?_
  · intro K hK
    rw [← h16]
    by_cases hq0 : r.query = []
    · have q1 : decide ((r.query.length : Int) > 0) = false := by rw [hq0]; rfl
      simp only [push_cast, Nat.reduceBEq, Nat.reduceLeDiff, Nat.reduceAdd, q1]
      exact hK _ _ ⟨rfl, by rw [targetB, if_pos hq0]; rfl, Below.refl _ _⟩
    · have q1 : decide ((r.query.length : Int) > 0) = true := decide_eq_true (by have := List.length_pos_iff.2 hq0; omega)
      have c2 := (hcell w1 (Below.refl _ _) 2).1
      simp only [List.getElem?_cons_zero, List.getElem?_cons_succ] at c2
      simp only [push_cast, Nat.reduceBEq, Nat.reduceLeDiff, Nat.reduceAdd, q1, c2]
      refine (Show_ vq r.query w1 (pairsV_below pq hb1) (by omega) hQ).mono ?_
      rintro e w2 ⟨rfl, hb2⟩
      have hsl := showS_len r.query hr.q hr.qs
      have s63 : (⟨#[63]⟩ : ByteArray).size = 1 := rfl
      simp only [push_cast, Nat.reduceBEq, Nat.reduceLeDiff, Nat.reduceAdd]
      refine ⟨by rw [size_mkS, s63]; omega, by simp only [ByteArray.size_append, size_mkS, s63]; omega, hK _ _ ⟨rfl, ?_, hb2⟩⟩
      rw [targetB, if_neg hq0, show r.path ++ 63 :: showS r.query = r.path ++ ([63] ++ showS r.query) from rfl]
      simp only [mkS_app2]; rfl
  rintro E w2 ⟨hE1, hE4, hb2⟩
  have hb02 := hb1.trans (hb2.mono hb1.size)
  have hs2 := hb2.size
  have cc := hcell w2 hb2
  have c0 := (cc 0).1
  have c1 := (cc 1).1
  have c2 := (cc 2).1
  have c3 := (cc 3).1
  have c4 := (cc 4).1
  simp only [List.getElem?_cons_zero, List.getElem?_cons_succ] at c0 c1 c2 c3 c4
  simp only [push_cast, Nat.reduceBEq, Nat.reduceLeDiff, Nat.reduceAdd, hE1, hE4, c0, c1, c2, c3, c4]
  refine (Clone_ vh r.hdrs w2 (pairsV_below ph hb02) (by omega)).mono ?_
  rintro e w3 ⟨v5, rfl, hown5, hb3⟩
  have hb13 := hb2.trans (hb3.mono hs2)
  have hb03 := hb1.trans (hb13.mono hb1.size)
  have hs3 := hb13.size
  have hs23 := hb3.size
  have d0 := (hcell w3 hb13 0).1
  have d1 := (hcell w3 hb13 1).1
  have d2 := (hcell w3 hb13 2).1
  have d3 := (hcell w3 hb13 3).1
  have d4 := (hcell w3 hb13 4).1
  simp only [List.getElem?_cons_zero, List.getElem?_cons_succ] at d0 d1 d2 d3 d4
  simp only [push_cast, Nat.reduceBEq, Nat.reduceLeDiff, Nat.reduceAdd, hE1, hE4, d0, d1, d2, d3, d4, z1, z2, z3, z4, z5, z6]
  refine (Header_V _ _ vq vh vb r.hdrs clen w3 (pairsV_below ph hb03) (by omega)).mono ?_
  rintro e w4 ⟨rfl, hb4⟩
  have hb14 := hb13.trans (hb4.mono hs3)
  have hs4 := hb14.size
  have hs34 := hb4.size
  have hown54 := own_below hown5 hb4
  have pb4 := bytesAt_below pb (hb1.trans (hb14.mono hb1.size))
  have f4 := (hcell w4 hb14 4).1
  simp only [List.getElem?_cons_zero, List.getElem?_cons_succ] at f4
  obtain ⟨Ab, cb, hvb, _⟩ := bytesAt_shape pb
  rw [hvb] at f4
  apply @cutT _ (fun E W => E 1 = .pointer (some ⟨w.heap.size, 0, none⟩) ∧ E 4 = .string (mkS (targetB r)) ∧ (∃ v5 B, E 5 = v5 ∧ w1.heap.size ≤ B ∧ W.ownsRow B 38 2 v5 (addH r).length (pairCells (addH r))) ∧ Below w1.heap.size w1 W)
  · intro htail
    cases hg : getP r.hdrs clen with
    | none =>
      obtain ⟨v38, h38⟩ : ∃ v, Value.bool (decide ((r.body.length : Int) > 0)) = v := ⟨_, rfl⟩
      simp only [push_cast, Nat.reduceBEq, Nat.reduceLeDiff, Nat.reduceAdd, gvP, hE1, hE4, f4, h38]
      refine at_cond _ ?_ htail
      intro K hK
      rw [← h38]
      by_cases hb0 : r.body = []
      · have q1 : decide ((r.body.length : Int) > 0) = false := by rw [hb0]; rfl
        simp only [push_cast, Nat.reduceBEq, Nat.reduceLeDiff, Nat.reduceAdd, q1, hE1, hE4]
        refine hK _ _ ⟨?_, ?_, ⟨v5, _, rfl, hs2, ?_⟩, hb14⟩
        · simp only [push_cast, Nat.reduceBEq, Nat.reduceLeDiff, Nat.reduceAdd, hE1]
        · simp only [push_cast, Nat.reduceBEq, Nat.reduceLeDiff, Nat.reduceAdd, hE4]
        · rw [addH, if_neg (fun hh => hh.2 hb0)]; exact hown54
      · have q1 : decide ((r.body.length : Int) > 0) = true := decide_eq_true (by have := List.length_pos_iff.2 hb0; omega)
        simp only [push_cast, Nat.reduceBEq, Nat.reduceLeDiff, Nat.reduceAdd, q1, hE1, hE4, f4]
        refine (itoa_ r.body.length (by omega) w4 (hG.step (hb1.trans (hb14.mono hb1.size)) hG.size)).mono ?_
        rintro e w5 ⟨rfl, hb5⟩
        have hb15 := hb14.trans (hb5.mono hs4)
        have hs5 := hb5.size
        simp only [push_cast, Nat.reduceBEq, Nat.reduceLeDiff, Nat.reduceAdd, bld38_2, bsl25]
        refine getR_of (append25 w5 w2.heap.size v5 r.hdrs (clen, Lib.decDigits r.body.length) (own_below hown54 hb5) (by omega) (by omega)) ?_
        rintro v6 w6 ⟨hown6, hb6⟩
        simp only [push_cast, Nat.reduceBEq, Nat.reduceLeDiff, Nat.reduceAdd]
        refine hK _ _ ⟨?_, ?_, ⟨v6, _, rfl, hs2, ?_⟩, hb15.trans (hb6.mono hs2)⟩
        · simp only [push_cast, Nat.reduceBEq, Nat.reduceLeDiff, Nat.reduceAdd, hE1]
        · simp only [push_cast, Nat.reduceBEq, Nat.reduceLeDiff, Nat.reduceAdd, hE4]
        · rw [addH, if_pos ⟨hg, hb0⟩]; exact hown6
    | some x =>
      simp only [push_cast, Nat.reduceBEq, Nat.reduceLeDiff, Nat.reduceAdd, gvP, hE1, hE4, f4]
      refine htail _ _ ⟨?_, ?_, ⟨v5, _, rfl, hs2, ?_⟩, hb14⟩
      · simp only [push_cast, Nat.reduceBEq, Nat.reduceLeDiff, Nat.reduceAdd, hE1]
      · simp only [push_cast, Nat.reduceBEq, Nat.reduceLeDiff, Nat.reduceAdd, hE4]
      · rw [addH, if_neg (fun hh => by rw [hg] at hh; cases hh.1)]; exact hown54
  rintro E2 w5 ⟨hE1', hE4', ⟨v6, B, hE5, hB, hown6⟩, hb5⟩
  have hs5 := hb5.size
  have hb05 := hb1.trans (hb5.mono hb1.size)
  have k0 : cellC (Below w5.heap.size w5) ⟨w.heap.size, 0, none⟩ = some (.string (mkS r.method)) := cellC_below (show w.heap.size < _ by omega) (hcell w5 hb5 0).1
  have k4 : cellC (Below w5.heap.size w5) ⟨w.heap.size, 4, none⟩ = some vb := cellC_below (show w.heap.size < _ by omega) (hcell w5 hb5 4).1
  rw [hvb] at k4
  have pb5 := bytesAt_below pb hb05
  have jc : convC Tryz.prog (Below w5.heap.size w5) 22 9 (.slice Ab r.body.length cb) = some (.string (mkS r.body)) :=
    convC_of w5 (Below.refl _ _) fun w' hw' => conv_back (by rw [← hvb]; exact bytesAt_below pb5 hw')
  refine law_planK (Below w5.heap.size w5) (.take 0 (.take 1 (.take 2 (.take 3 (.take 4 (.take 5 (.take 6 (.take 7 (.take 8 (.take 12 (.take 13 (.take 14 (.alt 9 (.take 10 (.take 11 (.take 15 (.take 16 (.done))))) (.nil)))))))))))))) (by kernel_rfl) (by kernel_rfl) (by kernel_rfl) (Below.refl _ _).drew ?_
  intro K hK
  simp only [push_cast, Nat.reduceBEq, Nat.reduceLeDiff, Nat.reduceAdd, hE1', hE4', hE5, k0, k4, jc, and_true]
  have htl := targetB_len r hr
  obtain ⟨al1, al2⟩ := addH_len r hr
  have s32 : (⟨#[32]⟩ : ByteArray).size = 1 := rfl
  have s8 : (⟨#[72, 84, 84, 80, 47, 49, 46, 49]⟩ : ByteArray).size = 8 := rfl
  have s2 : (⟨#[13, 10]⟩ : ByteArray).size = 2 := rfl
  have hll := hlsS_len (addH r) al2
  have hll2 : (addH r).length * 200004 ≤ 101 * 200004 := Nat.mul_le_mul_right _ al1
  refine ⟨by simp only [ByteArray.size_append, size_mkS, s32, s8, s2]; omega, by simp only [ByteArray.size_append, size_mkS, s32, s8, s2]; omega, by simp only [ByteArray.size_append, size_mkS, s32, s8, s2]; omega, by simp only [ByteArray.size_append, size_mkS, s32, s8, s2]; omega, by simp only [ByteArray.size_append, size_mkS, s32, s8, s2]; omega, ?_⟩
  refine (lines_ v6 (addH r) w5.drew (pairs_of_own (T := 38) (B := B) hown6) (by omega) al2).mono ?_
  rintro e w6 ⟨rfl, hb6⟩
  have hb56 : Below w5.heap.size w5 w6 := (Below.refl _ _).drew.trans hb6
  simp only [push_cast, Nat.reduceBEq, Nat.reduceLeDiff, Nat.reduceAdd, hE1', hE4', hE5, k0, k4, jc, and_true]
  obtain ⟨X1, hX1⟩ : ∃ X, X = mkS (reqB r) := ⟨_, rfl⟩
  have eX : mkS r.method ++ ⟨#[32]⟩ ++ mkS (targetB r) ++ ⟨#[32]⟩ ++ ⟨#[72, 84, 84, 80, 47, 49, 46, 49]⟩ ++ ⟨#[13, 10]⟩ ++ mkS (hlsS (addH r)) ++ ⟨#[13, 10]⟩ ++ mkS r.body = X1 := by
    rw [hX1, reqB]
    simp only [mkS_app2]; rfl
  have hXl : (reqB r).length ≤ 400000000 := by
    have hvl : version.length = 8 := rfl
    simp only [reqB, List.length_append, List.length_cons, List.length_nil, hvl]; omega
  refine ⟨hb56, by simp only [ByteArray.size_append, size_mkS, s32, s8, s2]; omega, by simp only [ByteArray.size_append, size_mkS, s32, s8, s2]; omega, by simp only [ByteArray.size_append, size_mkS, s32, s8, s2]; omega, hK _ _ ?_⟩
  clear hK
  rw [eX]
  have hb16 := hb5.trans (hb56.mono hs5)
  have hs6 := hb16.size
  have hs56 := hb56.size
  have g3 := hcell w6 hb16 3
  simp only [push_cast, Nat.reduceBEq, Nat.reduceLeDiff, Nat.reduceAdd, hE1', hE4', hE5, g3.1, g3.2, (own_shape hown6).1, (own_shape hown6).2]
  obtain ⟨w7, hw7⟩ : ∃ w7, w7 = w6.setCell ⟨w.heap.size, 3, none⟩ v6 := ⟨_, rfl⟩
  have hb07 : Below w.heap.size w w7 := hw7 ▸ (hb1.trans (hb16.mono hb1.size)).setCell (p := ⟨w.heap.size, 3, none⟩) (Nat.le_refl _) _
  have hz7 : w7.heap.size = w6.heap.size := by rw [hw7, sc_size]
  have hg6 := fun i => (hcell w6 hb16 i).1
  have u0 : w7.cell? ⟨w.heap.size, 0, none⟩ = some (.string (mkS r.method)) := by rw [hw7]; simp only [push_cast, Nat.reduceBEq, Nat.reduceLeDiff, Nat.reduceAdd, hg6, List.getElem?_cons_zero, List.getElem?_cons_succ]
  have u1 : w7.cell? ⟨w.heap.size, 1, none⟩ = some (.string (mkS r.path)) := by rw [hw7]; simp only [push_cast, Nat.reduceBEq, Nat.reduceLeDiff, Nat.reduceAdd, hg6, List.getElem?_cons_zero, List.getElem?_cons_succ]
  have u2 : w7.cell? ⟨w.heap.size, 2, none⟩ = some vq := by rw [hw7]; simp only [push_cast, Nat.reduceBEq, Nat.reduceLeDiff, Nat.reduceAdd, hg6, List.getElem?_cons_zero, List.getElem?_cons_succ]
  have u3 : w7.cell? ⟨w.heap.size, 3, none⟩ = some v6 := by rw [hw7]; simp only [push_cast, Nat.reduceBEq, Nat.reduceLeDiff, Nat.reduceAdd, hg6, List.getElem?_cons_zero, List.getElem?_cons_succ]
  have u4 : w7.cell? ⟨w.heap.size, 4, none⟩ = some vb := by rw [hw7]; simp only [push_cast, Nat.reduceBEq, Nat.reduceLeDiff, Nat.reduceAdd, hg6, List.getElem?_cons_zero, List.getElem?_cons_succ]
  have p7 : PairsAt w7 v6 (addH r) := by
    have h0 := own_below hown6 hb56
    have h1 : w7.ownsRow B 38 2 v6 (addH r).length (pairCells (addH r)) := hw7 ▸ h0.kept (row := some w.heap.size) ⟨rfl, rfl, rfl, by simp [World.setCell], fun k _ hk => Below.heap_setCell _ _ _ _ (fun e => hk (by simp [e]))⟩ (Or.inr (ownRow_ne h0 (by omega)))
    exact pairs_of_own h1
  rw [← hw7]
  clear hw7
  have z13 := (own_shape hown6).1
  have z14 := (own_shape hown6).2
  refine getR_of (conv_bytes X1 w7) ?_
  rintro vX w8 ⟨hB8, hb8, ccx, rfl⟩
  have hb08 := hb07.trans (hb8.mono hb07.size)
  rw [show toL X1 = reqB r by rw [hX1, toL_mkS]] at hB8
  simp only [push_cast, Nat.reduceBEq, Nat.reduceLeDiff, Nat.reduceAdd, hE1', hE4']
  refine (Parse_ _ (reqB r) w8 (hG.step hb08 hG.size) hB8).mono ?_
  rintro e w9 ⟨hP, hb9⟩
  have hb09 := hb08.trans (hb9.mono hb08.size)
  have hb79 := hb8.trans (hb9.mono hb8.size)
  have hlaw := parse_law (reqB r)
  cases hs : reqS (reqB r) with
  | error er =>
    rw [hs] at hP hlaw
    cases hP
    have q1 : decide (er ≠ 0) = true := decide_eq_true hlaw.2
    simp only [push_cast, Nat.reduceBEq, Nat.reduceLeDiff, Nat.reduceAdd, hE1', hE4', q1]
    exact hR _ _ ⟨.inr ⟨(by rw [hs]; intro h; cases h), rfl⟩, hb09.trans ((al_below _ _).mono hb09.size)⟩
  | ok r2 =>
    rw [hs] at hP
    obtain ⟨vq2, vh2, vb2, rfl, ⟨pq2, _⟩, ⟨ph2, _⟩, ⟨pb2, _⟩⟩ := hP
    obtain ⟨y1, y2⟩ := cl_pairs pq2
    obtain ⟨y3, y4⟩ := cl_pairs ph2
    obtain ⟨y5, y6⟩ := cl_bytes pb2
    have q0 : decide ((0 : Int) ≠ 0) = false := rfl
    obtain ⟨w10, hw10⟩ : ∃ w10, w10 = al w9 [([Value.string (mkS r2.method), Value.string (mkS r2.path), vq2, vh2, vb2], 27)] := ⟨_, rfl⟩
    simp only [push_cast, Nat.reduceBEq, Nat.reduceLeDiff, Nat.reduceAdd, hE1', hE4', q0, y1, y2, y3, y4, y5, y6]
    rw [← hw10]
    have hz10 : w10.heap.size = w9.heap.size + 1 := by rw [hw10, al_size]; rfl
    have hb10 : Below w9.heap.size w9 w10 := hw10 ▸ al_below _ _
    have e0 : w10.cell? ⟨w9.heap.size, 0, none⟩ = some (.string (mkS r2.method)) := by rw [hw10]; exact al_cell0 ..
    have e1 : w10.cell? ⟨w9.heap.size, 1, none⟩ = some (.string (mkS r2.path)) := by rw [hw10]; exact al_cell0 ..
    have e2 : w10.cell? ⟨w9.heap.size, 2, none⟩ = some vq2 := by rw [hw10]; exact al_cell0 ..
    have e3 : w10.cell? ⟨w9.heap.size, 3, none⟩ = some vh2 := by rw [hw10]; exact al_cell0 ..
    have e4 : w10.cell? ⟨w9.heap.size, 4, none⟩ = some vb2 := by rw [hw10]; exact al_cell0 ..
    clear hw10
    have hb710 := hb79.trans (hb10.mono hb79.size)
    have hlt : w.heap.size < w7.heap.size := by omega
    rw [← hb710.cell (p := ⟨w.heap.size, _, none⟩) hlt] at u0 u1 u2 u3 u4
    simp only [push_cast, Nat.reduceBEq, Nat.reduceLeDiff, Nat.reduceAdd, hE1', hE4', q0, e0, e1, e2, e3, e4, u0, u1, u2, u3, u4, z1, z2, z3, z4, z5, z6, z13, z14, y1, y2, y3, y4, y5, y6]
    have hb010 := hb09.trans (hb10.mono hb09.size)
    refine (same_ _ _ r2 (wire r) w10 ⟨vq2, vh2, vb2, rfl, (pairsAt_below pq2 hb10).V, (pairsAt_below ph2 hb10).V, bytesAt_below pb2 hb10⟩ ⟨vq, v6, vb, rfl, pairsV_below pq hb010, (pairsAt_below p7 hb710).V, bytesAt_below pb hb010⟩ (show r.query.length ≤ _ by omega) (show (addH r).length ≤ _ by omega) (show r.body.length ≤ _ by omega)).mono ?_
    rintro e w11 ⟨b, rfl, hbq, hb11⟩
    have hb011 := hb010.trans (hb11.mono hb010.size)
    cases b with
    | false =>
      simp only [push_cast, Nat.reduceBEq, Nat.reduceLeDiff, Nat.reduceAdd]
      exact hR _ _ ⟨.inr ⟨(by rw [hs]; intro h; cases h; exact absurd (hbq.2 rfl) (by decide)), rfl⟩, hb011⟩
    | true =>
      simp only [push_cast, Nat.reduceBEq, Nat.reduceLeDiff, Nat.reduceAdd, hE1', hE4']
      refine getR_of (conv_bytes X1 w11) ?_
      rintro vY w12 ⟨hB12, hb12, ccy, rfl⟩
      rw [show toL X1 = reqB r by rw [hX1, toL_mkS]] at hB12
      simp only [push_cast, Nat.reduceBEq, Nat.reduceLeDiff, Nat.reduceAdd]
      exact hR _ _ ⟨.inl ⟨by rw [hs, hbq.1 rfl], _, rfl, hB12⟩, hb011.trans (hb12.mono hb011.size)⟩
end Go.Proofs.YtciepffocobgpaaGreatDoor
/-! The law HttpWrites, walked. -/
namespace Go.Proofs.YtciepffocobgpaaGreatDoor
open Go Go.Sx Go.RowKit
set_option linter.unusedSimpArgs false
set_option linter.unusedVariables false
theorem addH_get (r : Req) (k : Nat) (hk : k < r.hdrs.length) : (addH r)[k]? = some r.hdrs[k] := by
  unfold addH
  split
  · rw [List.getElem?_append_left hk, List.getElem?_eq_getElem hk]
  · rw [List.getElem?_eq_getElem hk]
theorem addH_two (r : Req) : (addH r).length = r.hdrs.length ∨ (addH r).length = r.hdrs.length + 1 := by
  unfold addH
  split
  · right; simp
  · left; rfl
set_option maxRecDepth 20000 in
set_option maxHeartbeats 4000000 in
theorem HttpWrites_ (v : Value) (r : Req) (w : World) (hG : G w) (hv : ReqAt w v r) (hz1 : ∀ p ∈ r.hdrs, p.1.length ≤ 140737488355328 ∧ p.2.length ≤ 140737488355328) (hz2 : ∀ p ∈ r.query, p.1.length ≤ 140737488355328 ∧ p.2.length ≤ 140737488355328) :
    Calls Tryz.prog 6 #[v] w fun e w' => e = .returned (.bool true) ∧ Below w.heap.size w w' := by
  obtain ⟨vq, vh, vb, rfl, pq, ph, pb⟩ := hv
  obtain ⟨z1, z2⟩ := cl_pairsV pq
  obtain ⟨z3, z4⟩ := cl_pairsV ph
  obtain ⟨z5, z6⟩ := cl_bytes pb
  refine calls_X Tryz.func6 rfl Tryz.ntmps6 Tryz.results6 rfl rfl (by kernel_rfl) fun R hR => ?_
  simp only [push_cast, Nat.reduceBEq, Nat.reduceLeDiff, Nat.reduceAdd, z1, z2, z3, z4, z5, z6]
  obtain ⟨w0, hw0⟩ : ∃ w0, w0 = al w [([Value.string (mkS r.method), Value.string (mkS r.path), vq, vh, vb], 27)] := ⟨_, rfl⟩
  have hz0 : w0.heap.size = w.heap.size + 1 := by rw [hw0, al_size]; rfl
  have hb0 : Below w.heap.size w w0 := hw0 ▸ al_below _ _
  have hcell : ∀ W, Below w0.heap.size w0 W → ∀ i, W.cell? ⟨w.heap.size, i, none⟩ = [Value.string (mkS r.method), Value.string (mkS r.path), vq, vh, vb][i]? := fun W hW i => (new_cell (by rw [← hw0]; exact hW) (by omega) i).1
  rw [← hw0]
  clear hw0
  refine (anchor_ w0 (hG.step hb0 hG.size)).mono ?_
  rintro e w1 ⟨rfl, hb1⟩
  have hb01 := hb0.trans (hb1.mono hb0.size)
  have hs1 := hb1.size
  obtain ⟨Aq, cq, hvq, hcq⟩ := id pq
  obtain ⟨Ah, ch, hvh, hch⟩ := id ph
  obtain ⟨Ab, cb, hvb, _⟩ := bytesAt_shape pb
  subst hvq hvh hvb
  have c0 := hcell w1 hb1 0
  have c1 := hcell w1 hb1 1
  have c2 := hcell w1 hb1 2
  have c3 := hcell w1 hb1 3
  have c4 := hcell w1 hb1 4
  simp only [List.getElem?_cons_zero, List.getElem?_cons_succ] at c0 c1 c2 c3 c4
  by_cases a1 : r.method.length > 60
  · have r1 : decide (((r.method.length : Nat) : Int) > 60) = true := decide_eq_true (by omega)
    simp only [push_cast, Nat.reduceBEq, Nat.reduceLeDiff, Nat.reduceAdd, c0, c1, c2, c3, c4, size_mkS, r1]
    exact hR _ _ ⟨rfl, hb01⟩
  have r1 : decide (((r.method.length : Nat) : Int) > 60) = false := decide_eq_false (by omega)
  by_cases a2 : r.path.length > 300
  · have r2 : decide (((r.path.length : Nat) : Int) > 300) = true := decide_eq_true (by omega)
    simp only [push_cast, Nat.reduceBEq, Nat.reduceLeDiff, Nat.reduceAdd, c0, c1, c2, c3, c4, size_mkS, r1, r2]
    exact hR _ _ ⟨rfl, hb01⟩
  have r2 : decide (((r.path.length : Nat) : Int) > 300) = false := decide_eq_false (by omega)
  by_cases a3 : r.hdrs.length > 40
  · have r3 : decide (((r.hdrs.length : Nat) : Int) > 40) = true := decide_eq_true (by omega)
    simp only [push_cast, Nat.reduceBEq, Nat.reduceLeDiff, Nat.reduceAdd, c0, c1, c2, c3, c4, size_mkS, r1, r2, r3]
    exact hR _ _ ⟨rfl, hb01⟩
  have r3 : decide (((r.hdrs.length : Nat) : Int) > 40) = false := decide_eq_false (by omega)
  by_cases a4 : r.query.length > 10
  · have r4 : decide (((r.query.length : Nat) : Int) > 10) = true := decide_eq_true (by omega)
    simp only [push_cast, Nat.reduceBEq, Nat.reduceLeDiff, Nat.reduceAdd, c0, c1, c2, c3, c4, size_mkS, r1, r2, r3, r4]
    exact hR _ _ ⟨rfl, hb01⟩
  have r4 : decide (((r.query.length : Nat) : Int) > 10) = false := decide_eq_false (by omega)
  by_cases a5 : r.body.length > 2000
  · have r5 : decide (((r.body.length : Nat) : Int) > 2000) = true := decide_eq_true (by omega)
    simp only [push_cast, Nat.reduceBEq, Nat.reduceLeDiff, Nat.reduceAdd, c0, c1, c2, c3, c4, size_mkS, r1, r2, r3, r4, r5]
    exact hR _ _ ⟨rfl, hb01⟩
  have r5 : decide (((r.body.length : Nat) : Int) > 2000) = false := decide_eq_false (by omega)
  simp only [push_cast, Nat.reduceBEq, Nat.reduceLeDiff, Nat.reduceAdd, c0, c1, c2, c3, c4, size_mkS, r1, r2, r3, r4, r5]
  refine law_loop [(2, 2), (4, 4), (48, 60)] (fun n h w' => ∃ k : Nat, k ≤ r.hdrs.length ∧ n = r.hdrs.length - k ∧ h 48 = .int .i64 k ∧ (∀ p ∈ r.hdrs.take k, p.1.length + p.2.length ≤ 300) ∧ Below w1.heap.size w1 w') r.hdrs.length ⟨0, by omega, by omega, rfl, by simp, Below.refl _ _⟩ ?_
  rintro n h w2 ⟨k, hk, hn, h48, hle, hb2⟩ T hT
  by_cases hkl : k < r.hdrs.length
  · have qk : decide ((k : Int) < r.hdrs.length) = true := decide_eq_true (by omega)
    obtain ⟨b, o, rfl, hlt, d1, d2⟩ := hch k _ (List.getElem?_eq_getElem hkl)
    have hb02 := hb01.trans (hb2.mono hb01.size)
    have htk := List.take_succ_eq_append_getElem hkl
    have hzk := hz1 _ (List.getElem_mem hkl)
    generalize r.hdrs[k] = p at d1 d2 htk hzk
    rw [← hb02.cell (p := ⟨b, _, none⟩) hlt] at d1 d2
    have wk : IntKind.i64.wrap ((p.1.length : Int) + p.2.length) = (p.1.length : Int) + p.2.length := w64 (by omega) (by omega)
    by_cases hbig : p.1.length + p.2.length > 300
    · have q3 : decide (((p.1.length : Int) + p.2.length) > 300) = true := decide_eq_true (by omega)
      simp only [push_cast, Nat.reduceBEq, Nat.reduceLeDiff, Nat.reduceAdd, h48, qk, d1, d2, size_mkS, wk, q3]
      exact ⟨⟨by omega, by omega⟩, hR _ _ ⟨rfl, hb02.trans ((al_below _ _).mono hb02.size)⟩⟩
    · have q3 : decide (((p.1.length : Int) + p.2.length) > 300) = false := decide_eq_false (by omega)
      simp only [push_cast, Nat.reduceBEq, Nat.reduceLeDiff, Nat.reduceAdd, h48, qk, d1, d2, size_mkS, wk, q3]
      refine ⟨⟨by omega, by omega⟩, hT (r.hdrs.length - (k + 1)) _ _ (by simp only [push_cast, Nat.reduceBEq, Nat.reduceLeDiff]) (by omega) ⟨k + 1, by omega, rfl, ?_, fun x hx => ?_, hb2.trans ((al_below _ _).mono hb2.size)⟩⟩
      · simp only [push_cast, Nat.reduceBEq, Nat.reduceLeDiff]; rw [w64 (by omega) (by omega)]
      · rw [htk, List.mem_append, List.mem_singleton] at hx
        rcases hx with hx | rfl
        · exact hle x hx
        · omega
  have qk : decide ((k : Int) < r.hdrs.length) = false := decide_eq_false (by omega)
  rw [List.take_of_length_le (by omega)] at hle
  have hb12 := hb1.trans (hb2.mono hs1)
  have hb02 := hb01.trans (hb2.mono hb01.size)
  have c0 := hcell w2 hb12 0
  have c1 := hcell w2 hb12 1
  have c2 := hcell w2 hb12 2
  have c3 := hcell w2 hb12 3
  have c4 := hcell w2 hb12 4
  simp only [List.getElem?_cons_zero, List.getElem?_cons_succ] at c0 c1 c2 c3 c4
  simp only [push_cast, Nat.reduceBEq, Nat.reduceLeDiff, Nat.reduceAdd, h48, qk, c2]
  have hle1 := hle
  clear hle hT h48 hn qk
  refine law_loop [(2, 2), (6, 6), (64, 76)] (fun n h w' => ∃ k : Nat, k ≤ r.query.length ∧ n = r.query.length - k ∧ h 64 = .int .i64 k ∧ (∀ p ∈ r.query.take k, p.1.length + p.2.length ≤ 100) ∧ Below w1.heap.size w1 w') r.query.length ⟨0, by omega, by omega, rfl, by simp, hb2⟩ ?_
  clear hb2 hb12 hb02 c0 c1 c2 c3 c4
  rintro n2 h2 w3 ⟨k, hk, hn, h64, hle, hb2⟩ T2 hT
  by_cases hkl : k < r.query.length
  · have qk : decide ((k : Int) < r.query.length) = true := decide_eq_true (by omega)
    obtain ⟨b, o, rfl, hlt, d1, d2⟩ := hcq k _ (List.getElem?_eq_getElem hkl)
    have hb02 := hb01.trans (hb2.mono hb01.size)
    have htk := List.take_succ_eq_append_getElem hkl
    have hzk := hz2 _ (List.getElem_mem hkl)
    generalize r.query[k] = p at d1 d2 htk hzk
    rw [← hb02.cell (p := ⟨b, _, none⟩) hlt] at d1 d2
    have wk : IntKind.i64.wrap ((p.1.length : Int) + p.2.length) = (p.1.length : Int) + p.2.length := w64 (by omega) (by omega)
    by_cases hbig : p.1.length + p.2.length > 100
    · have q3 : decide (((p.1.length : Int) + p.2.length) > 100) = true := decide_eq_true (by omega)
      simp only [push_cast, Nat.reduceBEq, Nat.reduceLeDiff, Nat.reduceAdd, h64, qk, d1, d2, size_mkS, wk, q3]
      exact ⟨⟨by omega, by omega⟩, hR _ _ ⟨rfl, hb02.trans ((al_below _ _).mono hb02.size)⟩⟩
    · have q3 : decide (((p.1.length : Int) + p.2.length) > 100) = false := decide_eq_false (by omega)
      simp only [push_cast, Nat.reduceBEq, Nat.reduceLeDiff, Nat.reduceAdd, h64, qk, d1, d2, size_mkS, wk, q3]
      refine ⟨⟨by omega, by omega⟩, hT (r.query.length - (k + 1)) _ _ (by simp only [push_cast, Nat.reduceBEq, Nat.reduceLeDiff]) (by omega) ⟨k + 1, by omega, rfl, ?_, fun x hx => ?_, hb2.trans ((al_below _ _).mono hb2.size)⟩⟩
      · simp only [push_cast, Nat.reduceBEq, Nat.reduceLeDiff]; rw [w64 (by omega) (by omega)]
      · rw [htk, List.mem_append, List.mem_singleton] at hx
        rcases hx with hx | rfl
        · exact hle x hx
        · omega
  have qk : decide ((k : Int) < r.query.length) = false := decide_eq_false (by omega)
  rw [List.take_of_length_le (by omega)] at hle
  have hb13 := hb1.trans (hb2.mono hs1)
  have hb03 := hb01.trans (hb2.mono hb01.size)
  have c0 := hcell w3 hb13 0
  have c1 := hcell w3 hb13 1
  have c2 := hcell w3 hb13 2
  have c3 := hcell w3 hb13 3
  have c4 := hcell w3 hb13 4
  simp only [List.getElem?_cons_zero, List.getElem?_cons_succ] at c0 c1 c2 c3 c4
  simp only [push_cast, Nat.reduceBEq, Nat.reduceLeDiff, Nat.reduceAdd, h64, qk, c0, c1, c2, c3, c4, z1, z2, z3, z4, z5, z6]
  have hmild : Mild r := ⟨by omega, by omega, by omega, fun p hp => by have := hle p hp; omega, by omega, fun p hp => by have := hle1 p hp; omega, by omega⟩
  refine (ReqBytes_ _ r w3 ⟨_, _, _, rfl, pairsV_below pq hb03, pairsV_below ph hb03, bytesAt_below pb hb03⟩ hmild (hG.step hb03 hG.size)).mono ?_
  rintro e w4 ⟨hP, hb4⟩
  have hb04 := hb03.trans (hb4.mono hb03.size)
  have hb14 := hb13.trans (hb4.mono hb13.size)
  have q10 : decide ((10 : Int) ≠ 0) = true := by decide
  have q10' : decide ((10 : Int) = 10) = true := by decide
  have q00 : decide ((0 : Int) = 0) = true := by decide
  have q0 : decide ((0 : Int) ≠ 0) = false := by decide
  rcases hP with ⟨hs, vo, rfl, hvo⟩ | ⟨hs, rfl⟩
  case inr =>
    simp only [push_cast, Nat.reduceBEq, Nat.reduceLeDiff, Nat.reduceAdd, q10, q10', q00]
    exact hR _ _ ⟨rfl, hb04⟩
  simp only [push_cast, Nat.reduceBEq, Nat.reduceLeDiff, Nat.reduceAdd, q0]
  refine (Parse_ vo (reqB r) w4 (hG.step hb04 hG.size) hvo).mono ?_
  rintro e w5 ⟨hP, hb5⟩
  rw [hs] at hP
  obtain ⟨vq2, vh2, vb2, rfl, ⟨pq2, _⟩, ⟨ph2, _⟩, ⟨pb2, _⟩⟩ := hP
  obtain ⟨y1, y2⟩ := cl_pairs pq2
  obtain ⟨y3, y4⟩ := cl_pairs ph2
  obtain ⟨y5, y6⟩ := cl_bytes pb2
  obtain ⟨Aq2, cq2, hvq2, hcq2⟩ := pq2.V
  obtain ⟨Ah2, ch2, hvh2, hch2⟩ := ph2.V
  obtain ⟨Ab2, cb2, hvb2, _⟩ := bytesAt_shape pb2
  subst hvq2 hvh2 hvb2
  have hb05 := hb04.trans (hb5.mono hb04.size)
  have hb15 := hb14.trans (hb5.mono hb14.size)
  obtain ⟨w6, hw6⟩ : ∃ w6, w6 = al w5 [([Value.string (mkS (wire r).method), Value.string (mkS (wire r).path), .slice Aq2 (wire r).query.length cq2, .slice Ah2 (wire r).hdrs.length ch2, .slice Ab2 (wire r).body.length cb2], 27)] := ⟨_, rfl⟩
  simp only [push_cast, Nat.reduceBEq, Nat.reduceLeDiff, Nat.reduceAdd, q0, y1, y2, y3, y4, y5, y6]
  rw [← hw6]
  have hz6 : w6.heap.size = w5.heap.size + 1 := by rw [hw6, al_size]; rfl
  have hb6 : Below w5.heap.size w5 w6 := hw6 ▸ al_below _ _
  have hcell2 : ∀ W, Below w6.heap.size w6 W → ∀ i, W.cell? ⟨w5.heap.size, i, none⟩ = [Value.string (mkS (wire r).method), Value.string (mkS (wire r).path), .slice Aq2 (wire r).query.length cq2, .slice Ah2 (wire r).hdrs.length ch2, .slice Ab2 (wire r).body.length cb2][i]? := fun W hW i => (new_cell (by rw [← hw6]; exact hW) (by omega) i).1
  clear hw6
  have hb06 := hb05.trans (hb6.mono hb05.size)
  have hb16 := hb15.trans (hb6.mono hb15.size)
  have hs6 := hb16.size
  have hs5 := hb15.size
  have c0 := hcell w6 hb16 0
  have c1 := hcell w6 hb16 1
  have c2 := hcell w6 hb16 2
  have c3 := hcell w6 hb16 3
  have c4 := hcell w6 hb16 4
  have e0 := hcell2 w6 (Below.refl _ _) 0
  have e1 := hcell2 w6 (Below.refl _ _) 1
  have e2 := hcell2 w6 (Below.refl _ _) 2
  have e3 := hcell2 w6 (Below.refl _ _) 3
  have e4 := hcell2 w6 (Below.refl _ _) 4
  simp only [List.getElem?_cons_zero, List.getElem?_cons_succ] at c0 c1 c2 c3 c4 e0 e1 e2 e3 e4
  have v1 := conv_back (bytesAt_below pb hb06)
  have v2 := conv_back (bytesAt_below pb2 hb6)
  have fe : ∀ a : ByteArray, decide (a ≠ a) = false := fun a => decide_eq_false (fun h => h rfl)
  have fi : ∀ a : Int, decide (a ≠ a) = false := fun a => decide_eq_false (fun h => h rfl)
  have hah := addH_two r
  have hwm : (wire r).method = r.method := rfl
  have hwp : (wire r).path = r.path := rfl
  have hwq : (wire r).query = r.query := rfl
  have hwb : (wire r).body = r.body := rfl
  have hwh : (wire r).hdrs = addH r := rfl
  rw [hwm] at e0
  rw [hwp] at e1
  rw [hwq] at e2
  rw [hwh] at e3
  rw [hwb] at e4 v2
  have f1 : decide (((addH r).length : Int) < r.hdrs.length) = false := decide_eq_false (by omega)
  have wl : IntKind.i64.wrap ((r.hdrs.length : Int) + 1) = (r.hdrs.length : Int) + 1 := w64 (by omega) (by omega)
  have f2 : decide (((addH r).length : Int) > (r.hdrs.length : Int) + 1) = false := decide_eq_false (by omega)
  simp only [push_cast, Nat.reduceBEq, Nat.reduceLeDiff, Nat.reduceAdd, q0, c0, c1, c2, c3, c4, e0, e1, e2, e3, e4, v1, v2, fe, fi, f1, f2, wl, hwm, hwp, hwq, hwh, hwb]
  refine law_loop [(2, 2), (11, 12), (152, 164)] (fun n h w' => ∃ k : Nat, k ≤ r.query.length ∧ n = r.query.length - k ∧ h 152 = .int .i64 k ∧ Below w6.heap.size w6 w') r.query.length ⟨0, by omega, by omega, rfl, Below.refl _ _⟩ ?_
  rintro n3 h3 w7 ⟨k, hk, hn, hs_, hb7⟩ T3 hT
  have hb17 := hb16.trans (hb7.mono hs6)
  have hs7 := hb17.size
  have hs67 := hb7.size
  have hb07 := hb06.trans (hb7.mono hb06.size)
  by_cases hkl : k < r.query.length
  · have qk : decide ((k : Int) < r.query.length) = true := decide_eq_true (by omega)
    obtain ⟨b, o, rfl, hlt, d1, d2⟩ := hcq k _ (List.getElem?_eq_getElem hkl)
    obtain ⟨b2, o2, rfl, hlt2, x1, x2⟩ := hcq2 k _ (by rw [hwq, List.getElem?_eq_getElem hkl])
    generalize r.query[k] = p at d1 d2 x1 x2
    have hkl2 : k < (wire r).query.length := by rw [hwq]; exact hkl
    rw [← hb07.cell (p := ⟨b, _, none⟩) hlt] at d1 d2
    have hb57 : Below w5.heap.size w5 w7 := hb6.trans (hb7.mono (by omega))
    rw [← hb57.cell (p := ⟨b2, _, none⟩) hlt2] at x1 x2
    simp only [push_cast, Nat.reduceBEq, Nat.reduceLeDiff, Nat.reduceAdd, hs_, qk, d1, d2]
    refine ⟨⟨by omega, by omega⟩, ?_⟩
    obtain ⟨w8, hw8⟩ : ∃ w8, w8 = al w7 [([Value.string (mkS p.1), .string (mkS p.2)], 41)] := ⟨_, rfl⟩
    have hz8 : w8.heap.size = w7.heap.size + 1 := by rw [hw8, al_size]; rfl
    have hb8 : Below w7.heap.size w7 w8 := hw8 ▸ al_below _ _
    have g1 : w8.cell? ⟨w7.heap.size, 0, none⟩ = some (.string (mkS p.1)) := by rw [hw8]; exact al_cell0 ..
    have g2 : w8.cell? ⟨w7.heap.size, 1, none⟩ = some (.string (mkS p.2)) := by rw [hw8]; exact al_cell0 ..
    rw [← hw8]
    clear hw8
    have hb68 := hb7.trans (hb8.mono hs67)
    have ee := hcell2 w8 hb68 2
    simp only [List.getElem?_cons_zero, List.getElem?_cons_succ, hwq, hwh] at ee
    rw [← hb8.cell (p := ⟨b2, _, none⟩) (show b2 < _ by omega)] at x1 x2
    have k1 : cellC (Below w8.heap.size w8) ⟨w5.heap.size, 2, none⟩ = _ := cellC_below (show w5.heap.size < _ by omega) ee
    have k2 : cellC (Below w8.heap.size w8) ⟨b2, _, none⟩ = _ := cellC_below (show b2 < _ by omega) x1
    have k3 : cellC (Below w8.heap.size w8) ⟨b2, _, none⟩ = _ := cellC_below (show b2 < _ by omega) x2
    have k4 : cellC (Below w8.heap.size w8) ⟨w7.heap.size, 0, none⟩ = _ := cellC_below (show w7.heap.size < _ by omega) g1
    have k5 : cellC (Below w8.heap.size w8) ⟨w7.heap.size, 1, none⟩ = _ := cellC_below (show w7.heap.size < _ by omega) g2
    have nq : ∀ (g : Bool) K, binQ Tryz.prog .neq 41 g (.agg #[.string (mkS p.1), .string (mkS p.2)]) (.agg #[.string (mkS p.1), .string (mkS p.2)]) K = K (.bool false) := fun g K => binQ_eq (fun w => by rw [neq41, decide_eq_true rfl, decide_eq_true rfl]; rfl) K
    refine law_planK (Below w8.heap.size w8) (.take 0 (.take 1 (.take 2 (.take 3 (.take 4 (.take 5 (.take 6 (.done)))))))) (by kernel_rfl) (by kernel_rfl) (by kernel_rfl) (Below.refl _ _).drew ?_
    intro K hK
    simp only [push_cast, Nat.reduceBEq, Nat.reduceLeDiff, Nat.reduceAdd, hs_, k1, k2, k3, k4, k5, nq, and_true]
    refine ⟨⟨by omega, by omega⟩, hK _ _ ?_⟩
    clear hK
    simp only [push_cast, Nat.reduceBEq, Nat.reduceLeDiff, Nat.reduceAdd, hs_]
    refine hT (r.query.length - (k + 1)) _ _ (by simp only [push_cast, Nat.reduceBEq, Nat.reduceLeDiff]) (by omega) ⟨k + 1, by omega, rfl, ?_, hb68.drew⟩
    simp only [push_cast, Nat.reduceBEq, Nat.reduceLeDiff]; rw [w64 (by omega) (by omega)]
  have qk : decide ((k : Int) < r.query.length) = false := decide_eq_false (by omega)
  have c3 := hcell w7 hb17 3
  simp only [List.getElem?_cons_zero, List.getElem?_cons_succ] at c3
  simp only [push_cast, Nat.reduceBEq, Nat.reduceLeDiff, Nat.reduceAdd, hs_, qk, c3]
  clear hT hs_ hn qk hkl hb17 hs7 hs67 hb07
  refine law_loop [(2, 2), (13, 14), (168, 180)] (fun n h w' => ∃ k : Nat, k ≤ r.hdrs.length ∧ n = r.hdrs.length - k ∧ h 168 = .int .i64 k ∧ Below w6.heap.size w6 w') r.hdrs.length ⟨0, by omega, by omega, rfl, hb7⟩ ?_
  rintro n4 h4 w9 ⟨k, hk, hn, hs_, hb9⟩ T4 hT
  have hb17 := hb16.trans (hb9.mono hs6)
  have hs7 := hb17.size
  have hs67 := hb9.size
  have hb07 := hb06.trans (hb9.mono hb06.size)
  by_cases hkl : k < r.hdrs.length
  · have qk : decide ((k : Int) < r.hdrs.length) = true := decide_eq_true (by omega)
    obtain ⟨b, o, rfl, hlt, d1, d2⟩ := hch k _ (List.getElem?_eq_getElem hkl)
    obtain ⟨b2, o2, rfl, hlt2, x1, x2⟩ := hch2 k _ (addH_get r k hkl)
    generalize r.hdrs[k] = p at d1 d2 x1 x2
    have hkl2 : k < (wire r).hdrs.length := by rw [hwh]; omega
    rw [← hb07.cell (p := ⟨b, _, none⟩) hlt] at d1 d2
    have hb57 : Below w5.heap.size w5 w9 := hb6.trans (hb9.mono (by omega))
    rw [← hb57.cell (p := ⟨b2, _, none⟩) hlt2] at x1 x2
    simp only [push_cast, Nat.reduceBEq, Nat.reduceLeDiff, Nat.reduceAdd, hs_, qk, d1, d2]
    refine ⟨⟨by omega, by omega⟩, ?_⟩
    obtain ⟨w8, hw8⟩ : ∃ w8, w8 = al w9 [([Value.string (mkS p.1), .string (mkS p.2)], 38)] := ⟨_, rfl⟩
    have hz8 : w8.heap.size = w9.heap.size + 1 := by rw [hw8, al_size]; rfl
    have hb8 : Below w9.heap.size w9 w8 := hw8 ▸ al_below _ _
    have g1 : w8.cell? ⟨w9.heap.size, 0, none⟩ = some (.string (mkS p.1)) := by rw [hw8]; exact al_cell0 ..
    have g2 : w8.cell? ⟨w9.heap.size, 1, none⟩ = some (.string (mkS p.2)) := by rw [hw8]; exact al_cell0 ..
    rw [← hw8]
    clear hw8
    have hb68 := hb9.trans (hb8.mono hs67)
    have ee := hcell2 w8 hb68 3
    simp only [List.getElem?_cons_zero, List.getElem?_cons_succ, hwq, hwh] at ee
    rw [← hb8.cell (p := ⟨b2, _, none⟩) (show b2 < _ by omega)] at x1 x2
    have k1 : cellC (Below w8.heap.size w8) ⟨w5.heap.size, 3, none⟩ = _ := cellC_below (show w5.heap.size < _ by omega) ee
    have k2 : cellC (Below w8.heap.size w8) ⟨b2, _, none⟩ = _ := cellC_below (show b2 < _ by omega) x1
    have k3 : cellC (Below w8.heap.size w8) ⟨b2, _, none⟩ = _ := cellC_below (show b2 < _ by omega) x2
    have k4 : cellC (Below w8.heap.size w8) ⟨w9.heap.size, 0, none⟩ = _ := cellC_below (show w9.heap.size < _ by omega) g1
    have k5 : cellC (Below w8.heap.size w8) ⟨w9.heap.size, 1, none⟩ = _ := cellC_below (show w9.heap.size < _ by omega) g2
    have nq : ∀ (g : Bool) K, binQ Tryz.prog .neq 38 g (.agg #[.string (mkS p.1), .string (mkS p.2)]) (.agg #[.string (mkS p.1), .string (mkS p.2)]) K = K (.bool false) := fun g K => binQ_eq (fun w => by rw [neq38, decide_eq_true rfl, decide_eq_true rfl]; rfl) K
    refine law_planK (Below w8.heap.size w8) (.take 0 (.take 1 (.take 2 (.take 3 (.take 4 (.take 5 (.take 6 (.done)))))))) (by kernel_rfl) (by kernel_rfl) (by kernel_rfl) (Below.refl _ _).drew ?_
    intro K hK
    simp only [push_cast, Nat.reduceBEq, Nat.reduceLeDiff, Nat.reduceAdd, hs_, k1, k2, k3, k4, k5, nq, and_true]
    refine ⟨⟨by omega, by omega⟩, hK _ _ ?_⟩
    clear hK
    simp only [push_cast, Nat.reduceBEq, Nat.reduceLeDiff, Nat.reduceAdd, hs_]
    refine hT (r.hdrs.length - (k + 1)) _ _ (by simp only [push_cast, Nat.reduceBEq, Nat.reduceLeDiff]) (by omega) ⟨k + 1, by omega, rfl, ?_, hb68.drew⟩
    simp only [push_cast, Nat.reduceBEq, Nat.reduceLeDiff]; rw [w64 (by omega) (by omega)]
  have qk : decide ((k : Int) < r.hdrs.length) = false := decide_eq_false (by omega)
  simp only [push_cast, Nat.reduceBEq, Nat.reduceLeDiff, Nat.reduceAdd, hs_, qk]
  exact hR _ _ ⟨rfl, hb07⟩
end Go.Proofs.YtciepffocobgpaaGreatDoor
