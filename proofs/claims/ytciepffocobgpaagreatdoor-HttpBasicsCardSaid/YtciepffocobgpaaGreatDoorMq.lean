/- Base 64: the contracts of package b64 and of http.Basic; what is written is read back. -/
import Derived.Test.YtciepffocobgpaaGreatDoorMn
import Derived.Lib.OthersKept
import Derived.Test.YtciepffocobgpaaGreatDoorMr
import Derived.Test.YtciepffocobgpaaGreatDoorMs
/-! Bits that are pushed and popped. -/
namespace Go.Proofs.YtciepffocobgpaaGreatDoor
open Go Go.Sx Go.RowKit
set_option linter.unusedSimpArgs false
set_option linter.unusedVariables false
theorem or64 (a b : Nat) (ha : a < 1099511627776) (hb : b < 1099511627776) : bits .or .i64 (a : Int) (b : Int) = ((a ||| b : Nat) : Int) := by
  have hx : a ||| b < 2 ^ 40 := Nat.or_lt_two_pow (by omega) (by omega)
  have h1 : (BitVec.ofInt 64 (a : Int)).toNat = a := by
    rw [BitVec.ofInt_natCast, BitVec.toNat_ofNat]; exact Nat.mod_eq_of_lt (by omega)
  have h2 : (BitVec.ofInt 64 (b : Int)).toNat = b := by
    rw [BitVec.ofInt_natCast, BitVec.toNat_ofNat]; exact Nat.mod_eq_of_lt (by omega)
  show IntKind.i64.wrap ((BitVec.ofInt 64 (a : Int) ||| BitVec.ofInt 64 (b : Int)).toNat : Int) = _
  rw [BitVec.toNat_or, h1, h2]
  exact w64 (by omega) (by omega)
theorem and64 (a b : Nat) (ha : a < 1099511627776) (hb : b < 1099511627776) : bits .and .i64 (a : Int) (b : Int) = ((a &&& b : Nat) : Int) := by
  have hx : a &&& b < 2 ^ 40 := Nat.and_lt_two_pow _ (by omega)
  have h1 : (BitVec.ofInt 64 (a : Int)).toNat = a := by
    rw [BitVec.ofInt_natCast, BitVec.toNat_ofNat]; exact Nat.mod_eq_of_lt (by omega)
  have h2 : (BitVec.ofInt 64 (b : Int)).toNat = b := by
    rw [BitVec.ofInt_natCast, BitVec.toNat_ofNat]; exact Nat.mod_eq_of_lt (by omega)
  show IntKind.i64.wrap ((BitVec.ofInt 64 (a : Int) &&& BitVec.ofInt 64 (b : Int)).toNat : Int) = _
  rw [BitVec.toNat_and, h1, h2]
  exact w64 (by omega) (by omega)
theorem shl64 (a k m : Nat) (hm : m = a * 2 ^ k) (ha : a < 65536) (hk : k ≤ 16) : Op.shift .shl .i64 (a : Int) .i64 (k : Int) = pure (.int .i64 (m : Int)) := by
  subst hm
  have h2 : 2 ^ k ≤ 65536 := Nat.le_trans (Nat.pow_le_pow_right (by decide) hk) (by decide)
  have h3 : a * 2 ^ k ≤ 65536 * 65536 := Nat.mul_le_mul (by omega) h2
  have e : (a : Int) * 2 ^ k = ((a * 2 ^ k : Nat) : Int) := by simp
  rw [Op.shift, if_neg (by omega), Int.toNat_natCast, show min k IntKind.i64.bits = k from Nat.min_eq_left (Nat.le_trans hk (by decide))]
  show pure (Value.int .i64 (IntKind.i64.wrap ((a : Int) * 2 ^ k))) = _
  rw [e, w64 (by omega) (by omega)]
theorem shr64 (a k m : Nat) (hm : m = a / 2 ^ k) (hk : k ≤ 64) : Op.shift .shr .i64 (a : Int) .i64 (k : Int) = pure (.int .i64 (m : Int)) := by
  subst hm
  rw [Op.shift, if_neg (by omega), Int.toNat_natCast, show min k IntKind.i64.bits = k from Nat.min_eq_left hk]
  show pure (Value.int .i64 ((a : Int).fdiv (2 ^ k))) = _
  rw [Int.fdiv_eq_ediv_of_nonneg _ (Int.pow_nonneg (by decide)), show ((2 : Int) ^ k) = ((2 ^ k : Nat) : Int) from by simp, ← Int.natCast_ediv]
/-- Bits kept: their value and how many. -/
structure BitsAt (w : World) (b : Nat) (v n : Nat) : Prop where
  c0 : w.cell? ⟨b, 0, none⟩ = some (.int .i64 v)
  c1 : w.cell? ⟨b, 1, none⟩ = some (.int .i64 n)
  fz : ∀ i, w.frozen? ⟨b, i, none⟩ = false
  ty : ∃ c, w.heap[b]? = some (.cells c 113 (0, 0))
theorem set_cells {w : World} {b i : Nat} {v : Value} (h : ∃ c, w.heap[b]? = some (.cells c 113 (0, 0))) : ∃ c, (w.setCell ⟨b, i, none⟩ v).heap[b]? = some (.cells c 113 (0, 0)) := by
  obtain ⟨c, hc⟩ := h
  refine ⟨c.setIfInBounds i v, ?_⟩
  unfold World.setCell
  simp only [Array.getElem?_modify, if_true, hc]; rfl
/-- One block may have changed, no other. -/
def OnlyB (b : Nat) (w w' : World) : Prop := Below 0 w w' ∧ w'.heap.size = w.heap.size ∧ ∀ k, k ≠ b → w'.heap[k]? = w.heap[k]?
theorem OnlyB.refl (b : Nat) (w : World) : OnlyB b w w := ⟨Below.refl _ _, rfl, fun _ _ => rfl⟩
theorem OnlyB.trans {b : Nat} {w w' w'' : World} (h : OnlyB b w w') (h' : OnlyB b w' w'') : OnlyB b w w'' := ⟨h.1.trans h'.1, h'.2.1.trans h.2.1, fun k hk => (h'.2.2 k hk).trans (h.2.2 k hk)⟩
theorem OnlyB.drew {b : Nat} {w w' : World} (h : OnlyB b w w') : OnlyB b w w'.drew := ⟨h.1.drew, h.2.1, h.2.2⟩
theorem OnlyB.set {b : Nat} {w w' : World} (h : OnlyB b w w') (i : Nat) (v : Value) : OnlyB b w (w'.setCell ⟨b, i, none⟩ v) := by
  refine ⟨h.1.setCell (p := ⟨b, i, none⟩) (Nat.zero_le _) _, by rw [sc_size]; exact h.2.1, fun k hk => ?_⟩
  rw [← h.2.2 k hk]
  unfold World.setCell
  simp only [Array.getElem?_modify]
  rw [if_neg (fun he => hk he.symm)]
theorem OnlyB.below {b B : Nat} {w w' : World} (h : OnlyB b w w') (hB : B ≤ b) : Below B w w' := by
  obtain ⟨⟨h1, h2, h3, _, _⟩, h4, h5⟩ := h
  exact ⟨h1, h2, h3, by rw [h4]; exact Nat.le_refl _, fun k hk => h5 k (by omega)⟩
theorem dr_cell (w : World) (a : Addr) : w.drew.cell? a = w.cell? a := Eq.trans rfl rfl
theorem dr_frz (w : World) (a : Addr) : w.drew.frozen? a = w.frozen? a := Eq.trans rfl rfl
theorem push_ (b v n x k : Nat) (w : World) (h : BitsAt w b v n) (hv : v < 65536) (hk : k ≤ 16) (hx : x < 2 ^ k) (hn : n ≤ 1000) :
    Calls Tryz.prog 78 #[.pointer (some ⟨b, 0, none⟩), .int .i64 x, .int .i64 k] w fun e w' => e = .returned (.tuple #[]) ∧ w' = (w.setCell ⟨b, 0, none⟩ (.int .i64 (v * 2 ^ k + x : Nat))).setCell ⟨b, 1, none⟩ (.int .i64 (n + k : Nat)) := by
  refine calls_X Tryz.func78 rfl Tryz.ntmps78 Tryz.results78 rfl rfl (by kernel_rfl) fun R hR => ?_
  have h2 : 2 ^ k ≤ 65536 := Nat.le_trans (Nat.pow_le_pow_right (by decide) hk) (by decide)
  have h3 : v * 2 ^ k ≤ 65536 * 65536 := Nat.mul_le_mul (by omega) h2
  obtain ⟨m, hm⟩ : ∃ m, m = v * 2 ^ k := ⟨_, rfl⟩
  have hor : m ||| x = v * 2 ^ k + x := by rw [hm, Nat.mul_comm, Nat.two_pow_add_eq_or_of_lt hx]
  have ho := or64 m x (by omega) (by omega)
  rw [hor] at ho
  obtain ⟨y, hy⟩ : ∃ y, y = v * 2 ^ k + x := ⟨_, rfl⟩
  rw [← hy] at ho hR
  obtain ⟨z, hz⟩ : ∃ z, z = n + k := ⟨_, rfl⟩
  have hw : IntKind.i64.wrap ((n : Int) + k) = (z : Int) := by rw [w64 (by omega) (by omega)]; omega
  rw [← hz] at hR
  simp only [push_cast, Nat.reduceBEq, Nat.reduceLeDiff, Nat.reduceAdd, h.c0, h.c1, h.fz, shl64 v k m hm hv hk, ho, hw]
  exact hR _ _ ⟨rfl, rfl⟩
theorem push_bits {b v n x k : Nat} {w w' : World} (h : BitsAt w b v n) (hw : w' = (w.setCell ⟨b, 0, none⟩ (.int .i64 (v * 2 ^ k + x : Nat))).setCell ⟨b, 1, none⟩ (.int .i64 (n + k : Nat))) : BitsAt w' b (v * 2 ^ k + x) (n + k) ∧ OnlyB b w w' := by
  generalize v * 2 ^ k + x = y at *
  generalize n + k = z at *
  subst hw
  refine ⟨⟨?_, ?_, fun i => ?_, set_cells (set_cells h.ty)⟩, ((OnlyB.refl b w).set 0 _).set 1 _⟩
  · rw [sc_cell, sc_cell, h.c0]; rfl
  · rw [sc_cell, sc_cell, h.c1]; rfl
  · rw [sc_frz, sc_frz]; exact h.fz i
theorem pop_none (b v n k : Nat) (w : World) (h : BitsAt w b v n) (hn : n < k) :
    Calls Tryz.prog 79 #[.pointer (some ⟨b, 0, none⟩), .int .i64 k] w fun e w' => e = .returned (.tuple #[.int .i64 0, .bool false]) ∧ w' = w := by
  refine calls_X Tryz.func79 rfl Tryz.ntmps79 Tryz.results79 rfl rfl (by kernel_rfl) fun R hR => ?_
  have q1 : decide ((n : Int) < k) = true := decide_eq_true (by omega)
  simp only [push_cast, Nat.reduceBEq, Nat.reduceLeDiff, Nat.reduceAdd, h.c0, h.c1, h.fz, q1]
  exact hR _ _ ⟨rfl, rfl⟩
theorem pop_some (b v n k : Nat) (w : World) (h : BitsAt w b v n) (hv : v < 1099511627776) (hk : k ≤ n) (hn : n ≤ 16 + k) (hn2 : n ≤ 1000) :
    Calls Tryz.prog 79 #[.pointer (some ⟨b, 0, none⟩), .int .i64 k] w fun e w' => e = .returned (.tuple #[.int .i64 (v / 2 ^ (n - k) : Nat), .bool true]) ∧ OnlyB b w w' ∧ BitsAt w' b (v % 2 ^ (n - k)) (n - k) := by
  refine calls_X Tryz.func79 rfl Tryz.ntmps79 Tryz.results79 rfl rfl (by kernel_rfl) fun R hR => ?_
  have q1 : decide ((n : Int) < k) = false := decide_eq_false (by omega)
  obtain ⟨z, hz⟩ : ∃ z, z = n - k := ⟨_, rfl⟩
  have hw : IntKind.i64.wrap ((n : Int) - k) = (z : Int) := by rw [w64 (by omega) (by omega)]; omega
  rw [← hz] at hR
  simp only [push_cast, Nat.reduceBEq, Nat.reduceLeDiff, Nat.reduceAdd, h.c0, h.c1, h.fz, q1, hw]
  obtain ⟨m, hm⟩ : ∃ m, m = v / 2 ^ z := ⟨_, rfl⟩
  have hsr := shr64 v z m hm (by omega)
  obtain ⟨one, h1⟩ : ∃ one : Nat, one = 1 := ⟨_, rfl⟩
  have hz16 : z ≤ 16 := by omega
  refine law_plan (.take 0 (.take 1 (.take 2 (.take 4 (.take 5 (.take 6 (.alt 3 (.alt 7 (.alt 8 (.take 9 (.done)) (.nil)) (.nil)) (.alt 7 (.alt 3 (.alt 8 (.take 9 (.done)) (.nil)) (.nil)) (.nil))))))))) (by kernel_rfl) (by kernel_rfl) (by kernel_rfl) ?_
  simp only [push_cast, Nat.reduceBEq, Nat.reduceLeDiff, Nat.reduceAdd, h.c0, h.c1, h.fz, hsr, dr_cell, dr_frz]
  have h2 : 2 ^ z ≤ 65536 := Nat.le_trans (Nat.pow_le_pow_right (by decide) hz16) (by decide)
  have h2' : 0 < 2 ^ z := Nat.pow_pos (by decide)
  obtain ⟨q, hq⟩ : ∃ q, q = 2 ^ z := ⟨_, rfl⟩
  have hsl : Op.shift .shl .i64 1 .i64 (z : Int) = pure (.int .i64 (q : Int)) := shl64 1 z q (by omega) (by decide) hz16
  obtain ⟨q', hq'⟩ : ∃ q', q' = q - 1 := ⟨_, rfl⟩
  have hwq : IntKind.i64.wrap ((q : Int) - 1) = (q' : Int) := by rw [w64 (by omega) (by omega)]; omega
  obtain ⟨y, hy⟩ : ∃ y, y = v % 2 ^ z := ⟨_, rfl⟩
  have hand : v &&& q' = y := by rw [hq', hq, hy, Nat.and_two_pow_sub_one_eq_mod]
  have ha := and64 v q' hv (by omega)
  rw [hand] at ha
  rw [← hm, ← hy] at hR
  have fin : ∀ w' : World, (∃ w1, OnlyB b w w1 ∧ w1.cell? ⟨b, 1, none⟩ = some (.int .i64 z) ∧ w1.cell? ⟨b, 0, none⟩ = some (.int .i64 v) ∧ (∀ i, w1.frozen? ⟨b, i, none⟩ = false) ∧ (∃ c, w1.heap[b]? = some (.cells c 113 (0, 0))) ∧ w' = w1.setCell ⟨b, 0, none⟩ (.int .i64 y)) → R (.returned (.tuple #[.int .i64 m, .bool true])) w' := by
    rintro w' ⟨w1, h1, h2, h3, h4, h5, rfl⟩
    refine hR _ _ ⟨rfl, h1.set 0 _, ⟨?_, ?_, fun i => ?_, set_cells h5⟩⟩
    · rw [sc_cell, h3]; rfl
    · rw [sc_cell, h2]; rfl
    · rw [sc_frz]; exact h4 i
  have f := fin (((w.setCell ⟨b, 1, none⟩ (.int .i64 z)).drew.drew.setCell ⟨b, 0, none⟩ (.int .i64 y))) ⟨_, ((OnlyB.refl b w).set 1 (.int .i64 z)).drew.drew, by rw [dr_cell, dr_cell, sc_cell, h.c1]; rfl, by rw [dr_cell, dr_cell, sc_cell, h.c0]; rfl, fun i => by rw [dr_frz, dr_frz, sc_frz]; exact h.fz i, set_cells (w := w) (i := 1) (v := .int .i64 z) h.ty, rfl⟩
  refine ⟨?_, ?_⟩
  all_goals refine law_plan (.take 0 (.take 1 (.take 2 (.take 4 (.take 5 (.take 6 (.alt 3 (.alt 7 (.alt 8 (.take 9 (.alt 10 (.take 11 (.take 12 (.alt 13 (.done) (.nil)))) (.nil))) (.nil)) (.nil)) (.alt 7 (.alt 3 (.alt 8 (.take 9 (.alt 10 (.take 11 (.take 12 (.alt 13 (.done) (.nil)))) (.nil))) (.nil)) (.alt 8 (.take 9 (.alt 3 (.alt 10 (.take 11 (.take 12 (.alt 13 (.done) (.nil)))) (.nil)) (.nil))) (.nil))) (.nil))))))))) (by kernel_rfl) (by kernel_rfl) (by kernel_rfl) ?_
  all_goals simp only [push_cast, Nat.reduceBEq, Nat.reduceLeDiff, Nat.reduceAdd, h.c0, h.c1, h.fz, hsl, hwq, ha, dr_cell, dr_frz]
  all_goals exact ⟨f, f, f⟩
end Go.Proofs.YtciepffocobgpaaGreatDoor
/-! A builder written, with what stands beside it kept. -/
namespace Go.Proofs.YtciepffocobgpaaGreatDoor
open Go Go.Sx Go.RowKit
set_option linter.unusedSimpArgs false
set_option linter.unusedVariables false
theorem copyCheckK (B b : Nat) (bs : List Value) (w : World) (h : Lib.IsBuilder 105 5 B b bs w) :
    Calls Tryz.prog 100 #[.pointer (some ⟨b, 0, none⟩)] w fun e w' => e = .returned (.tuple #[]) ∧ (Lib.BuilderAt 105 5 B b (.pointer (some ⟨b, 0, none⟩)) bs w' ∧ Below B w w' ∧ Lib.OthersKept 5 (some b) w w') := by
  rcases h with h | h
  · refine (copyCheck_fresh b w h.cell0 h.shape h.frozen0).mono ?_
    rintro e w' ⟨rfl, rfl⟩
    exact ⟨rfl, h.used _, (Below.refl B w).setCell (p := ⟨b, 0, none⟩) h.1 _, (Lib.OthersKept.refl 5 (some b) w).setCell ⟨b, 0, none⟩ rfl _⟩
  · refine (copyCheck_used b w h.cell0).mono ?_
    rintro e w' ⟨rfl, rfl⟩
    exact ⟨rfl, h, Below.refl B _, Lib.OthersKept.refl 5 (some b) _⟩
theorem writeByteK (B b : Nat) (bs : List Value) (c : Int) (w : World) (h : Lib.IsBuilder 105 5 B b bs w) (hlen : bs.length + 1 ≤ 140737488355328) (hBw : B ≤ w.heap.size) :
    Calls Tryz.prog 77 #[.pointer (some ⟨b, 0, none⟩), .int .u8 c] w fun e w' => e = .returned .nilIface ∧ (Lib.BuilderAt 105 5 B b (.pointer (some ⟨b, 0, none⟩)) (bs ++ [.int .u8 c]) w' ∧ Below B w w' ∧ Lib.OthersKept 5 (some b) w w') := by
  obtain ⟨i0, hi, hz0, hz1, hz2⟩ := info_parts infoB
  refine calls_X Tryz.func77 rfl Tryz.ntmps77 Tryz.results77 rfl rfl (by kernel_rfl) fun R hR => ?_
  simp only [push_cast, Nat.reduceBEq, Nat.reduceLeDiff, Nat.reduceAdd]
  refine (copyCheckK B b bs w h).mono ?_
  rintro e w1 ⟨rfl, ⟨hB, v, hb, hown, hne⟩, hbel, hok⟩
  have hc1 : w1.cell? ⟨b, 1, none⟩ = some v := by rw [Lib.cell_of_heap hb]; rfl
  simp only [push_cast, Nat.reduceBEq, Nat.reduceLeDiff, Nat.reduceAdd, hc1, bsl22]
  refine getR_of (run_append_own (P := Tryz.prog) (w1.alloc (.cells #[.int .u8 c] 5)) B 22 22 5 i0 (.int .u8 0) 1 1 Tryz.underlying22 hi hz0 hz1 hz2 rfl (by decide) v bs.length bs (hown.alloc _) ⟨w1.heap.size, 0, none⟩ 1 1 [.int .u8 c] rfl (cell_one_new _ _ _) (by simp; rfl) (by unfold maxLen; omega) (by omega) (by have := hbel.size; simp; omega)) ?_
  rintro v' w2 ⟨hown', hg, _⟩
  have hlt := (Array.getElem?_eq_some_iff.1 hb).1
  have hb2 : w2.heap[b]? = some (.cells #[.pointer (some ⟨b, 0, none⟩), v] 105 (0, 0)) := by
    rw [hg.block b (by simp; omega) (fun e => hne e.symm), heap_alloc_old w1 _ b hlt]; exact hb
  have hl : (bs ++ [Value.int .u8 c]).length = bs.length + 1 := by simp
  rw [← hl] at hown'
  have hput := Lib.BuilderAt.put (p := .pointer (some ⟨b, 0, none⟩)) hB hb2 hown' (by decide)
  have hcv : v'.cells = #[v'] := by
    rcases hown'.2 with ⟨rfl, _⟩ | ⟨g, cap, cur, rfl, _⟩ <;> rfl
  have hiv : isCell v' = true := by
    rcases hown'.2 with ⟨rfl, _⟩ | ⟨g, cap, cur, rfl, _⟩ <;> rfl
  simp only [push_cast, Nat.reduceBEq, Nat.reduceLeDiff, Nat.reduceAdd, hcv, hiv, Lib.cell_of_heap hb2, Lib.frozen_of_heap hb2]
  have hkk := ((hok.alloc (.cells #[.int .u8 c] 5)).grown hg (fun k hk => by
    rcases hown.2 with ⟨rfl, _⟩ | ⟨g, cap, cur, rfl, hBg, hh, _⟩
    · cases hk
    · cases hk
      refine ⟨cur, _, (heap_alloc_old w1 _ g (Array.getElem?_eq_some_iff.1 hh).1).trans hh⟩)).setCell (b := b) ⟨b, 1, none⟩ rfl v'
  refine hR _ _ ⟨rfl, hput, ?_, hkk⟩
  exact ((hbel.alloc (Nat.le_trans hBw hbel.size) _).grown hg (by have := hbel.size; simp; omega) (fun k hk => by
    rcases hown.2 with ⟨rfl, _⟩ | ⟨g, cap, cur, rfl, hBg, _⟩
    · cases hk
    · cases hk; exact hBg)).setCell (p := ⟨b, 1, none⟩) hB _
/-- Bits beside a builder. -/
theorem bits_kept {b p v n : Nat} {w w' : World} (h : BitsAt w b v n) (hne : b ≠ p) (hk : Lib.OthersKept 5 (some p) w w') : BitsAt w' b v n := by
  obtain ⟨c, hc⟩ := h.ty
  have e : w'.heap[b]? = w.heap[b]? := by
    rw [hc]
    exact hk b _ hc (by simpa using hne) (fun c' fz hh => by simp at hh)
  refine ⟨(World.cell?_of_block e).trans h.c0, (World.cell?_of_block e).trans h.c1, fun i => ?_, c, e.trans hc⟩
  have := h.fz i
  unfold World.frozen? at this ⊢
  rw [e]; exact this
/-- A builder stands where only the bits' block changes. -/
theorem builder_only {T e : TypeId} {B p b : Nat} {bs : List Value} {w w' : World} (h : Lib.IsBuilder T e B p bs w) (hne : b ≠ p) (hT : ∃ c, w.heap[b]? = some (.cells c 113 (0, 0))) (he : e ≠ 113) (ho : OnlyB b w w') : Lib.IsBuilder T e B p bs w' := by
  have key : ∀ q, Lib.BuilderAt T e B p q bs w → Lib.BuilderAt T e B p q bs w' := by
    rintro q ⟨h1, v, h2, h3, h4⟩
    refine ⟨h1, v, (ho.2.2 p (fun h => hne h.symm)).trans h2, ?_, h4⟩
    obtain ⟨c, hc⟩ := hT
    refine ⟨h3.1, ?_⟩
    rcases h3.2 with hn | ⟨g, cap, cur, hv, hB, hg, rest⟩
    · exact .inl hn
    · refine .inr ⟨g, cap, cur, hv, hB, (ho.2.2 g ?_).trans hg, rest⟩
      rintro rfl
      rw [hc] at hg
      simp only [Option.some.injEq, Obj.cells.injEq] at hg
      exact he hg.2.1.symm
  exact h.elim (fun x => .inl (key _ x)) (fun x => .inr (key _ x))
end Go.Proofs.YtciepffocobgpaaGreatDoor
/-! Base 64, written. -/
namespace Go.Proofs.YtciepffocobgpaaGreatDoor
open Go Go.Sx Go.RowKit
set_option linter.unusedSimpArgs false
set_option linter.unusedVariables false
theorem ap_mkF1 (P : Program) (fn : Fn) (x : Value) (xs : List Value) (w : World) (c : Cont) : ap P (.mkF fn 1) (x :: xs) w c = c.K (.func fn #[x] xs.toArray) w := Eq.trans rfl rfl
def alB : Bytes := [65, 66, 67, 68, 69, 70, 71, 72, 73, 74, 75, 76, 77, 78, 79, 80, 81, 82, 83, 84, 85, 86, 87, 88, 89, 90, 97, 98, 99, 100, 101, 102, 103, 104, 105, 106, 107, 108, 109, 110, 111, 112, 113, 114, 115, 116, 117, 118, 119, 120, 121, 122, 48, 49, 50, 51, 52, 53, 54, 55, 56, 57, 45, 95]
def chr6 (d : Nat) : UInt8 := alB.getD d 0
/-- Six bits at a time, as long as there are six. -/
def dr6 : Nat → Nat → Nat → Bytes × (Nat × Nat)
  | 0, v, n => ([], (v, n))
  | f + 1, v, n => if n < 6 then ([], (v, n)) else (chr6 (v / 2 ^ (n - 6)) :: (dr6 f (v % 2 ^ (n - 6)) (n - 6)).1, (dr6 f (v % 2 ^ (n - 6)) (n - 6)).2)
def enc6 : Nat → Nat → Bytes → Bytes × (Nat × Nat)
  | v, n, [] => ([], (v, n))
  | v, n, x :: r => ((dr6 3 (v * 2 ^ 8 + x.toNat) (n + 8)).1 ++ (enc6 (dr6 3 (v * 2 ^ 8 + x.toNat) (n + 8)).2.1 (dr6 3 (v * 2 ^ 8 + x.toNat) (n + 8)).2.2 r).1, (enc6 (dr6 3 (v * 2 ^ 8 + x.toNat) (n + 8)).2.1 (dr6 3 (v * 2 ^ 8 + x.toNat) (n + 8)).2.2 r).2)
def encS (l : Bytes) : Bytes := if 0 < (enc6 0 0 l).2.2 then (enc6 0 0 l).1 ++ [chr6 ((enc6 0 0 l).2.1 * 2 ^ (6 - (enc6 0 0 l).2.2))] else (enc6 0 0 l).1
theorem bt_al (d : Nat) (h : d < 64) : bt ⟨#[65, 66, 67, 68, 69, 70, 71, 72, 73, 74, 75, 76, 77, 78, 79, 80, 81, 82, 83, 84, 85, 86, 87, 88, 89, 90, 97, 98, 99, 100, 101, 102, 103, 104, 105, 106, 107, 108, 109, 110, 111, 112, 113, 114, 115, 116, 117, 118, 119, 120, 121, 122, 48, 49, 50, 51, 52, 53, 54, 55, 56, 57, 45, 95]⟩ (d : Int) = ((chr6 d).toNat : Int) := by
  have hl : d < alB.length := h
  have := bt_get (mkS alB) d (by rw [toL_mkS]; exact hl)
  simp only [toL_mkS] at this
  rw [chr6, List.getD_eq_getElem?_getD, List.getElem?_eq_getElem hl, Option.getD_some]
  exact this
theorem Encode_ (v : Value) (l : Bytes) (w : World) (hv : BytesAt w v l) (hl : l.length ≤ 1000000) :
    Calls Tryz.prog 42 #[v] w fun e w' => e = .returned (.string (mkS (encS l))) ∧ Below w.heap.size w w' := by
  obtain ⟨A, c, rfl, hcells⟩ := bytesAt_shape hv
  refine calls_X Tryz.func42 rfl Tryz.ntmps42 Tryz.results42 rfl rfl (by kernel_rfl) fun R hR => ?_
  simp only [push_cast, Nat.reduceBEq, Nat.reduceLeDiff, Nat.reduceAdd, ap_mkF1]
  obtain ⟨w1, hw1⟩ : ∃ w1, w1 = al w [([Value.pointer none, .slice none 0 0], 105), ([Value.int .i64 0, .int .i64 0], 113)] := ⟨_, rfl⟩
  rw [← hw1]
  have hb1 : Below w.heap.size w w1 := hw1 ▸ al_below _ _
  have hB1 : Lib.IsBuilder 105 5 w.heap.size w.heap.size (Lib.byteCells []) w1 := by
    have h0 := Lib.fresh_isBuilder 105 5 w
    have h1 : w1 = (w.alloc (.cells #[.pointer none, .slice none 0 0] 105)).alloc (.cells #[.int .i64 0, .int .i64 0] 113) := by rw [hw1, al_alloc, al_alloc, al_al]; rfl
    rw [h1]
    exact isBuilder_below h0 ((Below.refl _ _).alloc (Nat.le_refl _) _)
  have hA1 : BitsAt w1 (w.heap.size + 1) 0 0 := ⟨by rw [hw1, al_cell]; rfl, by rw [hw1, al_cell]; rfl, fun i => by rw [hw1]; exact al_frz _ _ 1 i, _, by rw [hw1, al_heap_new]; rfl⟩
  clear hw1
  generalize hB0 : w.heap.size = B0 at *
  refine law_loop [(7, 9), (15, 32)] (fun n h w' => ∃ (k : Nat) (out : Bytes) (v m : Nat), k ≤ l.length ∧ n = l.length - k ∧ h 15 = .int .i64 k ∧ enc6 0 0 l = (out ++ (enc6 v m (l.drop k)).1, (enc6 v m (l.drop k)).2) ∧ m < 6 ∧ v < 2 ^ m ∧ out.length ≤ 3 * k ∧ Lib.IsBuilder 105 5 B0 B0 (Lib.byteCells out) w' ∧ BitsAt w' (B0 + 1) v m ∧ Below B0 w w') l.length ⟨0, [], 0, 0, by omega, by omega, rfl, by simp, by decide, by decide, by simp, hB1, hA1, hb1⟩ ?_
  rintro n h w2 ⟨k, out, v, m, hk, hn, h15, henc, hm, hvm, hout, hB2, hA2, hb2⟩ T hT
  have hv64 : v < 64 := Nat.lt_of_lt_of_le hvm (Nat.pow_le_pow_right (by decide) (by omega : m ≤ 6))
  by_cases hkl : k < l.length
  case neg =>
    have q1 : decide ((k : Int) < l.length) = false := decide_eq_false (by omega)
    simp only [push_cast, Nat.reduceBEq, Nat.reduceLeDiff, Nat.reduceAdd, h15, q1, hA2.c1]
    have hkl2 : k = l.length := by omega
    have henc2 : enc6 0 0 l = (out, (v, m)) := by
      rw [henc, hkl2, List.drop_length, enc6]; simp
    have hob : out.length ≤ 3000000 := by omega
    refine ⟨fun hc => ?_, fun hc => ?_⟩
    · simp only [decide_eq_true_eq] at hc
      have hm0 : 0 < m := by omega
      have hes : encS l = out ++ [chr6 (v * 2 ^ (6 - m))] := by rw [encS, henc2]; simp only; rw [if_pos hm0]
      obtain ⟨r, hr⟩ : ∃ r, r = 6 - m := ⟨_, rfl⟩
      have hwr : IntKind.i64.wrap (6 - (m : Int)) = (r : Int) := by rw [w64 (by omega) (by omega)]; omega
      rw [hwr]
      have hy64 : v * 2 ^ r < 64 := by
        have h1 : (v + 1) * 2 ^ r ≤ 2 ^ m * 2 ^ r := Nat.mul_le_mul_right _ hvm
        rw [← Nat.pow_add, show m + r = 6 from by omega, Nat.add_mul] at h1
        have := Nat.pow_pos (n := r) (show 0 < 2 by decide)
        omega
      refine (push_ (B0 + 1) v m 0 r w2 hA2 (by omega) (by omega) (Nat.pow_pos (by decide)) (by omega)).mono ?_
      rintro e w3 ⟨rfl, hw3⟩
      obtain ⟨hA3, ho3⟩ := push_bits hA2 hw3
      have hB3 := builder_only hB2 (by omega) hA2.ty (by decide) ho3
      have hb3 := hb2.trans (ho3.below (Nat.le_succ _))
      rw [← hr] at hes
      rw [Nat.add_zero, show m + r = 6 from by omega] at hA3
      clear hw3
      generalize v * 2 ^ r = y at *
      simp only [push_cast, Nat.reduceBEq, Nat.reduceLeDiff, Nat.reduceAdd]
      refine (pop_some (B0 + 1) y 6 6 w3 hA3 (by omega) (by omega) (by omega) (by omega)).mono ?_
      rintro e w4 ⟨rfl, ho4, hA4⟩
      have hB4 := builder_only hB3 (by omega) hA3.ty (by decide) ho4
      have hb4 := hb3.trans (ho4.below (Nat.le_succ _))
      rw [show y / 2 ^ (6 - 6) = y from by simp]
      have hal := bt_al y hy64
      simp only [push_cast, Nat.reduceBEq, Nat.reduceLeDiff, Nat.reduceAdd, hal]
      refine ⟨⟨by omega, by show ((y : Nat) : Int) < 64; omega⟩, (writeByteK B0 B0 _ (chr6 y).toNat w4 hB4 (by rw [bc_len]; omega) (by have := hb4.size; omega)).mono ?_⟩
      rintro e w5 ⟨rfl, hB5, hb5, hk5⟩
      simp only [push_cast, Nat.reduceBEq, Nat.reduceLeDiff, Nat.reduceAdd]
      refine (Tryz.Builder_String_any_f B0 B0 (out ++ [chr6 y]) w5 (Lib.IsBuilderF.of (.inr (bc_put hB5))) (by have := (hb4.trans hb5).size; omega)).mono ?_
      rintro e w6 ⟨rfl, hB6, hb6⟩
      simp only [push_cast, Nat.reduceBEq, Nat.reduceLeDiff, Nat.reduceAdd]
      exact hR _ _ ⟨by rw [hes]; rfl, (hb4.trans hb5).trans hb6⟩
    · simp only [decide_eq_false_iff_not] at hc
      have hm0 : ¬ 0 < m := by omega
      have hes : encS l = out := by rw [encS, henc2]; simp only; rw [if_neg hm0]
      refine (Tryz.Builder_String_any_f B0 B0 out w2 (Lib.IsBuilderF.of hB2) (by have := hb2.size; omega)).mono ?_
      rintro e w6 ⟨rfl, hB6, hb6⟩
      simp only [push_cast, Nat.reduceBEq, Nat.reduceLeDiff, Nat.reduceAdd]
      exact hR _ _ ⟨by rw [hes]; rfl, hb2.trans hb6⟩
  have q1 : decide ((k : Int) < l.length) = true := decide_eq_true (by omega)
  obtain ⟨bb, o, rfl, hbb, cx⟩ := hcells k _ (List.getElem?_eq_getElem hkl)
  have hd := List.drop_eq_getElem_cons hkl
  generalize l[k] = x at hd cx
  have hx := x.toNat_lt
  have cx2 := (hb2.cell (p := ⟨bb, _, none⟩) (by omega)).trans cx
  rw [← Nat.mul_one k] at cx2
  have hwx : IntKind.i64.wrap (x.toNat : Int) = (x.toNat : Int) := w64 (by omega) (by omega)
  simp only [push_cast, Nat.reduceBEq, Nat.reduceLeDiff, Nat.reduceAdd, h15, q1, cx2, hwx]
  refine ⟨⟨by omega, by omega⟩, (push_ (B0 + 1) v m x.toNat 8 w2 hA2 (by omega) (by omega) (by omega) (by omega)).mono ?_⟩
  rintro e w3 ⟨rfl, hw3⟩
  obtain ⟨hA3, ho3⟩ := push_bits hA2 hw3
  have hB3 := builder_only hB2 (by omega) hA2.ty (by decide) ho3
  have hb3 := hb2.trans (ho3.below (Nat.le_succ _))
  rw [hd, enc6] at henc
  have hv1 : v * 2 ^ 8 + x.toNat < 2 ^ (m + 8) := by
    rw [Nat.pow_add]
    have : v + 1 ≤ 2 ^ m := hvm
    have := Nat.mul_le_mul_right (2 ^ 8) this
    omega
  generalize hv1e : v * 2 ^ 8 + x.toNat = v1 at *
  generalize hm1e : m + 8 = m1 at *
  clear hw3
  simp only [push_cast, Nat.reduceBEq, Nat.reduceLeDiff, Nat.reduceAdd]
  refine law_loop [(8, 9), (22, 31)] (fun n h w' => ∃ (j : Nat) (o1 : Bytes) (v' m' : Nat), j ≤ 2 ∧ n = m' ∧ m' + 6 * j = m1 ∧ v' < 2 ^ m' ∧ o1.length = j ∧ dr6 3 v1 m1 = (o1 ++ (dr6 (3 - j) v' m').1, (dr6 (3 - j) v' m').2) ∧ Lib.IsBuilder 105 5 B0 B0 (Lib.byteCells (out ++ o1)) w' ∧ BitsAt w' (B0 + 1) v' m' ∧ Below B0 w w') m1 ⟨0, [], v1, m1, by omega, rfl, by omega, hv1, rfl, by simp, by simpa using hB3, hA3, hb3⟩ ?_
  rintro n2 h2 w4 ⟨j, o1, v', m', hj, hn2, hmj, hv', ho1, hdr, hB4, hA4, hb4⟩ T2 hT2
  have hp13 : 2 ^ m' ≤ 2 ^ 13 := Nat.pow_le_pow_right (by decide) (by omega)
  simp only [push_cast, Nat.reduceBEq, Nat.reduceLeDiff, Nat.reduceAdd]
  by_cases h6 : m' < 6
  · refine (pop_none (B0 + 1) v' m' 6 w4 hA4 h6).mono ?_
    rintro e w5 ⟨rfl, rfl⟩
    simp only [push_cast, Nat.reduceBEq, Nat.reduceLeDiff, Nat.reduceAdd, h15]
    have hdr6 : dr6 3 v1 m1 = (o1, (v', m')) := by
      rw [hdr, show 3 - j = (2 - j) + 1 from by omega, dr6, if_pos h6]; simp
    rw [hdr6] at henc
    refine hT (l.length - (k + 1)) _ _ (by simp only [push_cast, Nat.reduceBEq, Nat.reduceLeDiff]) (by omega) ⟨k + 1, out ++ o1, v', m', by omega, rfl, ?_, ?_, h6, hv', by rw [List.length_append]; omega, hB4, hA4, hb4⟩
    · simp only [push_cast, Nat.reduceBEq, Nat.reduceLeDiff]; rw [w64 (by omega) (by omega)]
    · rw [henc, List.append_assoc]
  · refine (pop_some (B0 + 1) v' m' 6 w4 hA4 (by omega) (by omega) (by omega) (by omega)).mono ?_
    rintro e w5 ⟨rfl, ho5, hA5⟩
    have hB5 := builder_only hB4 (by omega) hA4.ty (by decide) ho5
    have hb5 := hb4.trans (ho5.below (Nat.le_succ _))
    have hd64 : v' / 2 ^ (m' - 6) < 64 := by
      rw [Nat.div_lt_iff_lt_mul (Nat.pow_pos (by decide)), show 64 * 2 ^ (m' - 6) = 2 ^ m' from by rw [show (64 : Nat) = 2 ^ 6 from rfl, ← Nat.pow_add]; congr 1; omega]
      exact hv'
    have hv5 : v' % 2 ^ (m' - 6) < 2 ^ (m' - 6) := Nat.mod_lt _ (Nat.pow_pos (by decide))
    have hdr5 : dr6 (3 - j) v' m' = (chr6 (v' / 2 ^ (m' - 6)) :: (dr6 (3 - (j + 1)) (v' % 2 ^ (m' - 6)) (m' - 6)).1, (dr6 (3 - (j + 1)) (v' % 2 ^ (m' - 6)) (m' - 6)).2) := by
      rw [show 3 - j = (3 - (j + 1)) + 1 from by omega, dr6, if_neg h6]
    generalize v' / 2 ^ (m' - 6) = dd at *
    generalize v' % 2 ^ (m' - 6) = vv at *
    have hal := bt_al dd hd64
    simp only [push_cast, Nat.reduceBEq, Nat.reduceLeDiff, Nat.reduceAdd, h15, hal]
    refine ⟨⟨by omega, by show ((dd : Nat) : Int) < 64; omega⟩, (writeByteK B0 B0 _ (chr6 dd).toNat w5 hB5 (by rw [bc_len]; rw [List.length_append]; omega) (by have := hb5.size; omega)).mono ?_⟩
    rintro e w6 ⟨rfl, hB6, hb6, hk6⟩
    have hA6 := bits_kept hA5 (by omega) hk6
    simp only [push_cast, Nat.reduceBEq, Nat.reduceLeDiff, Nat.reduceAdd, h15]
    refine hT2 (m' - 6) _ _ (by simp only [push_cast, Nat.reduceBEq, Nat.reduceLeDiff]) (by omega) ⟨j + 1, o1 ++ [chr6 dd], vv, m' - 6, by omega, rfl, by omega, hv5, by simp [ho1], ?_, ?_, hA6, hb5.trans hb6⟩
    · rw [hdr, hdr5, List.append_assoc]; rfl
    · rw [← List.append_assoc]; exact .inr (bc_put hB6)
end Go.Proofs.YtciepffocobgpaaGreatDoor
/-! Base 64, read. -/
namespace Go.Proofs.YtciepffocobgpaaGreatDoor
open Go Go.Sx Go.RowKit
set_option linter.unusedSimpArgs false
set_option linter.unusedVariables false
def ix6 (c : UInt8) : Int := Lib.indexByte alB c
theorem ix6_range (c : UInt8) : -1 ≤ ix6 c ∧ ix6 c ≤ 63 := by
  have := byte_all (fun c => decide (-1 ≤ ix6 c ∧ ix6 c ≤ 63)) (by kernel_rfl) c
  simpa using this
def dec6 : Nat → Nat → Bytes → Option (Bytes × (Nat × Nat))
  | v, n, [] => some ([], (v, n))
  | v, n, c :: r => if ix6 c < 0 then none else
    if 8 ≤ n + 6 then (dec6 ((v * 2 ^ 6 + (ix6 c).toNat) % 2 ^ (n + 6 - 8)) (n + 6 - 8) r).map fun p => (UInt8.ofNat ((v * 2 ^ 6 + (ix6 c).toNat) / 2 ^ (n + 6 - 8)) :: p.1, p.2)
    else dec6 (v * 2 ^ 6 + (ix6 c).toNat) (n + 6) r
def decS (l : Bytes) : Option Bytes := match dec6 0 0 l with | none => none | some p => if 6 ≤ p.2.2 ∨ p.2.1 ≠ 0 then none else some p.1
def DecPost (o : Option Bytes) (e : Ending) (w' : World) : Prop :=
  match o with
  | none => e = .returned (.tuple #[.slice none 0 0, .int .i64 10])
  | some l => ∃ v, e = .returned (.tuple #[v, .int .i64 0]) ∧ BytesAt w' v l ∧ ∃ A c, v = .slice A l.length c ∧ l.length ≤ c
theorem cap_of_own {w : World} {B e size n : Nat} {v : Value} {xs : List Value} (h : w.ownsRow B e size v n xs) : ∃ A c, v = .slice A n c ∧ n ≤ c := by
  rcases h.2 with ⟨rfl, rfl⟩ | ⟨g, cap, cur, hv, _, _, hn, _⟩
  · exact ⟨none, 0, rfl, Nat.le_refl _⟩
  · exact ⟨_, cap, hv, hn⟩
theorem bits_below {b B v n : Nat} {w w' : World} (h : BitsAt w b v n) (hb : Below B w w') (hB : b < B) : BitsAt w' b v n := by
  obtain ⟨c, hc⟩ := h.ty
  exact ⟨(hb.cell (p := ⟨b, 0, none⟩) hB).trans h.c0, (hb.cell (p := ⟨b, 1, none⟩) hB).trans h.c1, fun i => (hb.frozen (p := ⟨b, i, none⟩) hB).trans (h.fz i), c, (hb.block b hB).trans hc⟩
theorem own_only {w w' : World} {B e size n b : Nat} {v : Value} {xs : List Value} (h : w.ownsRow B e size v n xs) (ho : OnlyB b w w') (hb : b < B) : w'.ownsRow B e size v n xs := by
  refine ⟨h.1, ?_⟩
  rcases h.2 with hn | ⟨g, cap, cur, hv, hB, hg, rest⟩
  · exact .inl hn
  · exact .inr ⟨g, cap, cur, hv, hB, (ho.2.2 g (by omega)).trans hg, rest⟩
theorem Decode_ (s : ByteArray) (w : World) (hs : s.size ≤ 1000000) :
    Calls Tryz.prog 46 #[.string s] w fun e w' => DecPost (decS (toL s)) e w' ∧ Below w.heap.size w w' := by
  refine calls_X Tryz.func46 rfl Tryz.ntmps46 Tryz.results46 rfl rfl (by kernel_rfl) fun R hR => ?_
  simp only [push_cast, Nat.reduceBEq, Nat.reduceLeDiff, Nat.reduceAdd]
  obtain ⟨w1, hw1⟩ : ∃ w1, w1 = al w [([Value.int .i64 0, .int .i64 0], 113)] := ⟨_, rfl⟩
  rw [← hw1]
  have hb1 : Below w.heap.size w w1 := hw1 ▸ al_below _ _
  have hA1 : BitsAt w1 w.heap.size 0 0 := ⟨by rw [hw1]; exact al_cell0 .., by rw [hw1]; exact al_cell0 .., fun i => by rw [hw1]; exact al_frz0 .., _, by rw [hw1]; exact (al_heap_new w _ 0).trans rfl⟩
  have hs1 : w1.heap.size = w.heap.size + 1 := by rw [hw1, al_size]; rfl
  clear hw1
  generalize hB0 : w.heap.size = B0 at *
  refine law_loop [(2, 4), (6, 9), (12, 33)] (fun n h w' => ∃ (k : Nat) (out : Bytes) (v m : Nat) (vv : Value), k ≤ s.size ∧ n = s.size - k ∧ h 12 = .int .i64 k ∧ h 4 = vv ∧ dec6 0 0 (toL s) = (dec6 v m ((toL s).drop k)).map (fun p => (out ++ p.1, p.2)) ∧ m < 8 ∧ v < 2 ^ m ∧ out.length ≤ k ∧ w'.ownsRow (B0 + 1) 5 1 vv out.length (Lib.byteCells out) ∧ BitsAt w' B0 v m ∧ Below B0 w w' ∧ B0 + 1 ≤ w'.heap.size) s.size ⟨0, [], 0, 0, _, by omega, by omega, rfl, rfl, by rw [List.drop_zero]; cases dec6 0 0 (toL s) <;> simp, by decide, by decide, by simp, World.ownsRow_nil _ _ _ _, hA1, hb1, by omega⟩ ?_
  rintro n h w2 ⟨k, out, v, m, vv, hk, hn, h12, h4, hdec, hm, hvm, hout, hown2, hA2, hb2, hz2⟩ T hT
  have hv128 : v < 128 := Nat.lt_of_lt_of_le hvm (Nat.pow_le_pow_right (by decide) (by omega : m ≤ 7))
  by_cases hkl : k < s.size
  case neg =>
    have q1 : decide ((k : Int) < s.size) = false := decide_eq_false (by omega)
    have hkl2 : k = s.size := by omega
    have hdec2 : dec6 0 0 (toL s) = some (out, (v, m)) := by
      rw [hdec, hkl2, ← toL_len s, List.drop_length, dec6]; simp
    have hds : decS (toL s) = if 6 ≤ m ∨ v ≠ 0 then none else some out := by rw [decS, hdec2]
    by_cases hm6 : 6 ≤ m
    · have q2 : decide ((m : Int) ≥ 6) = true := decide_eq_true (by omega)
      simp only [push_cast, Nat.reduceBEq, Nat.reduceLeDiff, Nat.reduceAdd, h12, h4, q1, hA2.c1, hA2.c0, q2]
      exact hR _ _ ⟨by rw [hds, if_pos (.inl hm6)]; rfl, hb2⟩
    have q2 : decide ((m : Int) ≥ 6) = false := decide_eq_false (by omega)
    by_cases hv0 : v = 0
    · have q3 : decide ((v : Int) ≠ 0) = false := decide_eq_false (by omega)
      simp only [push_cast, Nat.reduceBEq, Nat.reduceLeDiff, Nat.reduceAdd, h12, h4, q1, hA2.c1, hA2.c0, q2, q3]
      exact hR _ _ ⟨by rw [hds, if_neg (by omega)]; exact ⟨_, rfl, bytes_of_own hown2, cap_of_own hown2⟩, hb2⟩
    · have q3 : decide ((v : Int) ≠ 0) = true := decide_eq_true (by omega)
      simp only [push_cast, Nat.reduceBEq, Nat.reduceLeDiff, Nat.reduceAdd, h12, h4, q1, hA2.c1, hA2.c0, q2, q3]
      exact hR _ _ ⟨by rw [hds, if_pos (.inr hv0)]; rfl, hb2⟩
  have q1 : decide ((k : Int) < s.size) = true := decide_eq_true (by omega)
  have hkt : k < (toL s).length := by rw [toL_len]; exact hkl
  have hbt := bt_get s k hkt
  have hd := List.drop_eq_getElem_cons hkt
  generalize (toL s)[k] = x at hd hbt
  have hix := ix6_range x
  simp only [push_cast, Nat.reduceBEq, Nat.reduceLeDiff, Nat.reduceAdd, h12, h4, q1, hbt]
  refine ⟨⟨by omega, by omega⟩, (Tryz.strings_IndexByte _ _ w2).mono ?_⟩
  rintro e w3 ⟨rfl, he⟩
  replace he := he.symm
  subst he
  rw [show ((x.toNat : Int)).toNat.toUInt8 = x from by rw [Int.toNat_natCast]; exact UInt8.ofNat_toNat, show Lib.indexByte (⟨#[65, 66, 67, 68, 69, 70, 71, 72, 73, 74, 75, 76, 77, 78, 79, 80, 81, 82, 83, 84, 85, 86, 87, 88, 89, 90, 97, 98, 99, 100, 101, 102, 103, 104, 105, 106, 107, 108, 109, 110, 111, 112, 113, 114, 115, 116, 117, 118, 119, 120, 121, 122, 48, 49, 50, 51, 52, 53, 54, 55, 56, 57, 45, 95]⟩ : ByteArray).data.toList x = ix6 x from rfl]
  rw [hd, dec6] at hdec
  by_cases hneg : ix6 x < 0
  · have q2 : decide (ix6 x < 0) = true := decide_eq_true hneg
    simp only [push_cast, Nat.reduceBEq, Nat.reduceLeDiff, Nat.reduceAdd, h12, h4, q2]
    rw [if_pos hneg] at hdec
    exact hR _ _ ⟨by rw [decS, hdec]; rfl, hb2⟩
  have q2 : decide (ix6 x < 0) = false := decide_eq_false hneg
  rw [if_neg hneg] at hdec
  obtain ⟨d, hdx⟩ : ∃ d : Nat, ix6 x = d := ⟨(ix6 x).toNat, by omega⟩
  rw [hdx] at hdec q2 ⊢
  rw [Int.toNat_natCast] at hdec
  simp only [push_cast, Nat.reduceBEq, Nat.reduceLeDiff, Nat.reduceAdd, h12, h4, q2]
  refine (push_ B0 v m d 6 w2 hA2 (by omega) (by omega) (by omega) (by omega)).mono ?_
  rintro e w3 ⟨rfl, hw3⟩
  obtain ⟨hA3, ho3⟩ := push_bits hA2 hw3
  have hown3 := own_only hown2 ho3 (Nat.lt_succ_self _)
  have hb3 := hb2.trans (ho3.below (Nat.le_refl _))
  have hz3 : B0 + 1 ≤ w3.heap.size := by rw [ho3.2.1]; exact hz2
  have hv1 : v * 2 ^ 6 + d < 2 ^ (m + 6) := by
    rw [Nat.pow_add]
    have : v + 1 ≤ 2 ^ m := hvm
    have := Nat.mul_le_mul_right (2 ^ 6) this
    omega
  generalize hv1e : v * 2 ^ 6 + d = v1 at *
  generalize hm1e : m + 6 = m1 at *
  clear hw3
  have hp13 : 2 ^ m1 ≤ 2 ^ 13 := Nat.pow_le_pow_right (by decide) (by omega)
  simp only [push_cast, Nat.reduceBEq, Nat.reduceLeDiff, Nat.reduceAdd, h12, h4]
  by_cases h8 : m1 < 8
  · rw [if_neg (by omega)] at hdec
    refine (pop_none B0 v1 m1 8 w3 hA3 h8).mono ?_
    rintro e w5 ⟨rfl, rfl⟩
    simp only [push_cast, Nat.reduceBEq, Nat.reduceLeDiff, Nat.reduceAdd, h12, h4]
    refine hT (s.size - (k + 1)) _ _ (by simp only [push_cast, Nat.reduceBEq, Nat.reduceLeDiff]) (by omega) ⟨k + 1, out, v1, m1, vv, by omega, rfl, ?_, ?_, hdec, h8, hv1, by omega, hown3, hA3, hb3, hz3⟩
    · simp only [push_cast, Nat.reduceBEq, Nat.reduceLeDiff]; rw [w64 (by omega) (by omega)]
    · simp only [push_cast, Nat.reduceBEq, Nat.reduceLeDiff, h4]
  · rw [if_pos (by omega)] at hdec
    refine (pop_some B0 v1 m1 8 w3 hA3 (by omega) (by omega) (by omega) (by omega)).mono ?_
    rintro e w5 ⟨rfl, ho5, hA5⟩
    have hown5 := own_only hown3 ho5 (Nat.lt_succ_self _)
    have hb5 := hb3.trans (ho5.below (Nat.le_refl _))
    have hz5 : B0 + 1 ≤ w5.heap.size := by rw [ho5.2.1]; exact hz3
    have hd256 : v1 / 2 ^ (m1 - 8) < 256 := by
      rw [Nat.div_lt_iff_lt_mul (Nat.pow_pos (by decide)), show 256 * 2 ^ (m1 - 8) = 2 ^ m1 from by rw [show (256 : Nat) = 2 ^ 8 from rfl, ← Nat.pow_add]; congr 1; omega]
      exact hv1
    have hv5 : v1 % 2 ^ (m1 - 8) < 2 ^ (m1 - 8) := Nat.mod_lt _ (Nat.pow_pos (by decide))
    generalize v1 / 2 ^ (m1 - 8) = dd at *
    generalize v1 % 2 ^ (m1 - 8) = v2 at *
    have hw8 : IntKind.u8.wrap (dd : Int) = ((UInt8.ofNat dd).toNat : Int) := by
      rw [show IntKind.u8.wrap (dd : Int) = (dd : Int) from IntWalk.u8_in _ ⟨by omega, by omega⟩, UInt8.toNat_ofNat_of_lt' hd256]
    simp only [push_cast, Nat.reduceBEq, Nat.reduceLeDiff, Nat.reduceAdd, h12, h4, hw8, bsl22i]
    refine getR_of (append22 w5 (B0 + 1) vv out (UInt8.ofNat dd) hown5 hz5 (by omega)) ?_
    rintro v' w6 ⟨hown6, hb6⟩
    have hA6 := bits_below hA5 hb6 (Nat.lt_succ_self _)
    simp only [push_cast, Nat.reduceBEq, Nat.reduceLeDiff, Nat.reduceAdd, h12, h4]
    refine hT (s.size - (k + 1)) _ _ (by simp only [push_cast, Nat.reduceBEq, Nat.reduceLeDiff]) (by omega) ⟨k + 1, out ++ [UInt8.ofNat dd], v2, m1 - 8, v', by omega, rfl, ?_, ?_, ?_, by omega, hv5, by simp; omega, hown6, hA6, hb5.trans (hb6.mono (Nat.le_succ _)), by have := hb6.size; omega⟩
    · simp only [push_cast, Nat.reduceBEq, Nat.reduceLeDiff]; rw [w64 (by omega) (by omega)]
    · simp only [push_cast, Nat.reduceBEq, Nat.reduceLeDiff]
    · rw [hdec]
      cases dec6 v2 (m1 - 8) (List.drop (k + 1) (toL s)) <;> simp
end Go.Proofs.YtciepffocobgpaaGreatDoor
/-! Bytes put in the place of others. -/
namespace Go.Proofs.YtciepffocobgpaaGreatDoor
open Go Go.Sx Go.RowKit
set_option linter.unusedSimpArgs false
set_option linter.unusedVariables false
def swB (f t : Bytes) (x : UInt8) : UInt8 := if 0 ≤ Lib.indexByte f x then t.getD (Lib.indexByte f x).toNat 0 else x
theorem swap_ (s : ByteArray) (f t : Bytes) (hft : ∀ x, Lib.indexByte f x < (t.length : Int)) (hs : s.size ≤ 1000000000) (w : World) :
    Calls Tryz.prog 41 #[.string s, .string (mkS f), .string (mkS t)] w fun r w' => r = .returned (.string (mkS ((toL s).map (swB f t)))) ∧ Below w.heap.size w w' := by
  refine calls_X Tryz.func41 rfl Tryz.ntmps41 Tryz.results41 rfl rfl (by kernel_rfl) fun R hR => ?_
  simp only [push_cast, Nat.reduceBEq, Nat.reduceLeDiff, Nat.reduceAdd]
  refine getR_of (conv_bytes2 s w) ?_
  rintro v w1 ⟨⟨c, rfl⟩, hsz, hcells, hb1⟩
  simp only [push_cast, Nat.reduceBEq, Nat.reduceLeDiff, Nat.reduceAdd]
  refine law_loop [(8, 10), (15, 31)] (fun n h w' => ∃ k : Nat, k ≤ s.size ∧ n = s.size - k ∧ h 15 = .int .i64 k ∧ w'.heap.size = w.heap.size + 1 ∧ (∀ j x, (toL s)[j]? = some x → w'.cell? ⟨w.heap.size, j, none⟩ = some (.int .u8 (if j < k then swB f t x else x).toNat) ∧ w'.frozen? ⟨w.heap.size, j, none⟩ = false) ∧ Below w.heap.size w w') s.size ⟨0, by omega, by omega, rfl, hsz, by simpa using hcells, hb1⟩ ?_
  rintro n h w2 ⟨k, hk, hn, h15, hs2, hcs, hb2⟩ T hT
  by_cases hkl : k < s.size
  · have q1 : decide ((k : Int) < s.size) = true := decide_eq_true (by omega)
    have hkt : k < (toL s).length := by rw [toL_len]; exact hkl
    obtain ⟨x, hx1⟩ : ∃ x, (toL s)[k]? = some x := ⟨_, List.getElem?_eq_getElem hkt⟩
    obtain ⟨c0, f0⟩ := hcs k x hx1
    rw [if_neg (Nat.lt_irrefl k)] at c0
    simp only [push_cast, Nat.reduceBEq, Nat.reduceLeDiff, Nat.reduceAdd, h15, q1, Nat.mul_one, c0, f0]
    refine ⟨⟨by omega, by omega⟩, (Tryz.strings_IndexByte _ _ w2).mono ?_⟩
    rintro e w3 ⟨rfl, he⟩
    replace he := he.symm
    subst he
    rw [show ((x.toNat : Int)).toNat.toUInt8 = x from by rw [Int.toNat_natCast]; exact UInt8.ofNat_toNat, show Lib.indexByte (mkS f).data.toList x = Lib.indexByte f x from rfl]
    have hlt := hft x
    by_cases hneg : 0 ≤ Lib.indexByte f x
    · have q2 : decide (Lib.indexByte f x ≥ 0) = true := decide_eq_true hneg
      obtain ⟨d, hd⟩ : ∃ d : Nat, Lib.indexByte f x = d := ⟨(Lib.indexByte f x).toNat, by omega⟩
      have hsw : swB f t x = t.getD d 0 := by rw [swB, if_pos hneg, hd, Int.toNat_natCast]
      rw [hd] at q2 hlt ⊢
      have hdt : d < t.length := by omega
      have hbt : bt (mkS t) d = ((t.getD d 0).toNat : Int) := by
        have := bt_get (mkS t) d (by rw [toL_mkS]; exact hdt)
        simp only [toL_mkS] at this
        rw [List.getD_eq_getElem?_getD, List.getElem?_eq_getElem hdt, Option.getD_some]; exact this
      simp only [push_cast, Nat.reduceBEq, Nat.reduceLeDiff, Nat.reduceAdd, h15, q1, q2, Nat.mul_one, c0, f0, hbt]
      refine ⟨⟨by omega, by rw [size_mkS]; omega⟩, ⟨by omega, by omega⟩, hT (s.size - (k + 1)) _ _ (by simp only [push_cast, Nat.reduceBEq, Nat.reduceLeDiff]) (by omega) ⟨k + 1, by omega, rfl, ?_, by rw [sc_size]; exact hs2, fun j y hj => ⟨?_, ?_⟩, hb2.setCell (p := ⟨w.heap.size, k, none⟩) (Nat.le_refl _) _⟩⟩
      · simp only [push_cast, Nat.reduceBEq, Nat.reduceLeDiff]; rw [w64 (by omega) (by omega)]
      · rw [sc_cell]
        by_cases hkj : k = j
        · subst hkj
          rw [hx1] at hj; cases hj
          rw [beq_self_eq_true, c0, scv_t, if_pos (Nat.lt_succ_self _), hsw]
        · rw [show (k == j) = false from by simpa using hkj, scv_f, (hcs j y hj).1]
          by_cases hjk : j < k
          · rw [if_pos hjk, if_pos (by omega)]
          · rw [if_neg hjk, if_neg (by omega)]
      · rw [sc_frz]; exact (hcs j y hj).2
    · have q2 : decide (Lib.indexByte f x ≥ 0) = false := decide_eq_false (by omega)
      have hsw : swB f t x = x := by rw [swB, if_neg hneg]
      simp only [push_cast, Nat.reduceBEq, Nat.reduceLeDiff, Nat.reduceAdd, h15, q1, q2, Nat.mul_one, c0, f0]
      refine hT (s.size - (k + 1)) _ _ (by simp only [push_cast, Nat.reduceBEq, Nat.reduceLeDiff]) (by omega) ⟨k + 1, by omega, rfl, ?_, hs2, fun j y hj => ⟨?_, (hcs j y hj).2⟩, hb2⟩
      · simp only [push_cast, Nat.reduceBEq, Nat.reduceLeDiff]; rw [w64 (by omega) (by omega)]
      · rw [(hcs j y hj).1]
        by_cases hkj : k = j
        · subst hkj
          rw [hx1] at hj; cases hj
          rw [if_neg (Nat.lt_irrefl k), if_pos (Nat.lt_succ_self _), hsw]
        · by_cases hjk : j < k
          · rw [if_pos hjk, if_pos (by omega)]
          · rw [if_neg hjk, if_neg (by omega)]
  · have q1 : decide ((k : Int) < s.size) = false := decide_eq_false (by omega)
    have hk0 : k = s.size := by omega
    have hB : BytesAt w2 (.slice (some ⟨w.heap.size, 0, none⟩) s.size c) ((toL s).map (swB f t)) := by
      refine .inr ⟨w.heap.size, 0, c, by simp [toL_len], by omega, fun j x hj => ?_⟩
      rw [List.getElem?_map] at hj
      obtain ⟨y, hy, rfl⟩ := Option.map_eq_some_iff.1 hj
      have hlt := (List.getElem?_eq_some_iff.1 hy).1
      rw [toL_len] at hlt
      rw [Nat.zero_add, (hcs j y hy).1, if_pos (by omega)]
    simp only [push_cast, Nat.reduceBEq, Nat.reduceLeDiff, Nat.reduceAdd, h15, q1, conv_back hB]
    exact hR _ _ ⟨rfl, hb2⟩
def padS (n : Nat) : Bytes := Lib.repeatL [61] ((4 - n % 4) % 4)
theorem pad_ (n : Nat) (hn : n ≤ 10000000) (w : World) :
    Calls Tryz.prog 43 #[.int .i64 n] w fun r w' => r = .returned (.string (mkS (padS n))) ∧ Below w.heap.size w w' := by
  refine calls_X Tryz.func43 rfl Tryz.ntmps43 Tryz.results43 rfl rfl (by kernel_rfl) fun R hR => ?_
  obtain ⟨a, ha⟩ : ∃ a, a = n % 4 := ⟨_, rfl⟩
  obtain ⟨b, hb⟩ : ∃ b, b = (4 - n % 4) % 4 := ⟨_, rfl⟩
  rw [padS, ← hb] at hR
  have e1 : (n : Int).tmod 4 = (a : Int) := by rw [Int.tmod_eq_emod_of_nonneg (by omega)]; omega
  obtain ⟨a4, ha4⟩ : ∃ a4, a4 = 4 - a := ⟨_, rfl⟩
  have e2 : IntKind.i64.wrap (4 - (a : Int)) = (a4 : Int) := by rw [w64 (by omega) (by omega)]; omega
  have e3 : (a4 : Int).tmod 4 = (b : Int) := by rw [Int.tmod_eq_emod_of_nonneg (by omega)]; omega
  have e4 : ((4 : Int) == 0) = false := by decide
  simp only [push_cast, Nat.reduceBEq, Nat.reduceLeDiff, Nat.reduceAdd, e1, e2, e3, e4, true_and]
  refine (Tryz.strings_Repeat ⟨#[61]⟩ b w (by omega) (by show 1 * b ≤ _; omega)).mono ?_
  rintro e w1 ⟨rfl, hb1⟩
  simp only [push_cast, Nat.reduceBEq, Nat.reduceLeDiff, Nat.reduceAdd]
  exact hR _ _ ⟨rfl, hb1⟩
/-- The plain base 64 of a text. -/
def stdS (l : Bytes) : Bytes := (encS l).map (swB [45, 95] [43, 47]) ++ padS ((encS l).map (swB [45, 95] [43, 47])).length
theorem dr6_len : ∀ (f v n : Nat), (dr6 f v n).1.length ≤ f
  | 0, v, n => by simp [dr6]
  | f + 1, v, n => by
    rw [dr6]
    split
    · simp
    · simp only [List.length_cons]; have := dr6_len f (v % 2 ^ (n - 6)) (n - 6); omega
theorem enc6_len : ∀ (l : Bytes) (v n : Nat), (enc6 v n l).1.length ≤ 3 * l.length
  | [], v, n => by simp [enc6]
  | x :: r, v, n => by
    rw [enc6]
    simp only [List.length_append, List.length_cons]
    have h1 := dr6_len 3 (v * 2 ^ 8 + x.toNat) (n + 8)
    have h2 := enc6_len r (dr6 3 (v * 2 ^ 8 + x.toNat) (n + 8)).2.1 (dr6 3 (v * 2 ^ 8 + x.toNat) (n + 8)).2.2
    omega
theorem encS_len (l : Bytes) : (encS l).length ≤ 3 * l.length + 1 := by
  have := enc6_len l 0 0
  unfold encS
  split
  · rw [List.length_append, List.length_singleton]; omega
  · omega
theorem sw_ok1 : ∀ x : UInt8, Lib.indexByte [45, 95] x < (([43, 47] : Bytes).length : Int) := by
  intro x
  have := byte_all (fun c => decide (Lib.indexByte [45, 95] c < 2)) (by kernel_rfl) x
  simpa using this
theorem sw_ok2 : ∀ x : UInt8, Lib.indexByte [43, 47] x < (([45, 95] : Bytes).length : Int) := by
  intro x
  have := byte_all (fun c => decide (Lib.indexByte [43, 47] c < 2)) (by kernel_rfl) x
  simpa using this
theorem padS_len (n : Nat) : (padS n).length ≤ 3 := by
  have : (4 - n % 4) % 4 < 4 := Nat.mod_lt _ (by decide)
  unfold padS
  rcases (by omega : (4 - n % 4) % 4 = 0 ∨ (4 - n % 4) % 4 = 1 ∨ (4 - n % 4) % 4 = 2 ∨ (4 - n % 4) % 4 = 3) with h | h | h | h <;> rw [h] <;> decide
theorem Standard_ (v : Value) (l : Bytes) (w : World) (hv : BytesAt w v l) (hl : l.length ≤ 1000000) :
    Calls Tryz.prog 20 #[v] w fun e w' => e = .returned (.string (mkS (stdS l))) ∧ Below w.heap.size w w' := by
  have hel := encS_len l
  refine calls_X Tryz.func20 rfl Tryz.ntmps20 Tryz.results20 rfl rfl (by kernel_rfl) fun R hR => ?_
  simp only [push_cast, Nat.reduceBEq, Nat.reduceLeDiff, Nat.reduceAdd]
  refine (Encode_ v l w hv hl).mono ?_
  rintro e w1 ⟨rfl, hb1⟩
  simp only [push_cast, Nat.reduceBEq, Nat.reduceLeDiff, Nat.reduceAdd]
  refine (swap_ (mkS (encS l)) [45, 95] [43, 47] sw_ok1 (by rw [size_mkS]; omega) w1).mono ?_
  rintro e w2 ⟨rfl, hb2⟩
  rw [toL_mkS]
  obtain ⟨t, ht⟩ : ∃ t, t = (encS l).map (swB [45, 95] [43, 47]) := ⟨_, rfl⟩
  have htl : t.length ≤ 3000001 := by rw [ht, List.length_map]; omega
  rw [stdS] at hR
  rw [← ht] at hR ⊢
  simp only [push_cast, Nat.reduceBEq, Nat.reduceLeDiff, Nat.reduceAdd, size_mkS]
  refine (pad_ t.length (by omega) w2).mono ?_
  rintro e w3 ⟨rfl, hb3⟩
  have hpl := padS_len t.length
  simp only [push_cast, Nat.reduceBEq, Nat.reduceLeDiff, Nat.reduceAdd, size_mkS]
  rw [← mkS_app2]
  exact ⟨by omega, hR _ _ ⟨rfl, (hb1.trans (hb2.mono hb1.size)).trans (hb3.mono (by have := hb1.size; have := hb2.size; omega))⟩⟩
end Go.Proofs.YtciepffocobgpaaGreatDoor
/-! Plain base 64, read. -/
namespace Go.Proofs.YtciepffocobgpaaGreatDoor
open Go Go.Sx Go.RowKit
set_option linter.unusedSimpArgs false
set_option linter.unusedVariables false
def fromS (s : Bytes) : Option Bytes :=
  if (Lib.trimRightB s 61).map (swB [45, 95] [43, 47]) = Lib.trimRightB s 61 then
    if Lib.trimRightB s 61 ++ padS (Lib.trimRightB s 61).length = s then decS ((Lib.trimRightB s 61).map (swB [43, 47] [45, 95])) else none
  else none
theorem trimR_len (s : Bytes) (c : UInt8) : (Lib.trimRightB s c).length ≤ s.length := by
  unfold Lib.trimRightB
  have := (List.dropWhile_sublist (· == c) (l := s.reverse)).length_le
  rw [List.length_reverse] at *; omega
theorem FromStandard_ (s : ByteArray) (w : World) (hs : s.size ≤ 1000000) :
    Calls Tryz.prog 22 #[.string s] w fun e w' => DecPost (fromS (toL s)) e w' ∧ Below w.heap.size w w' := by
  refine calls_X Tryz.func22 rfl Tryz.ntmps22 Tryz.results22 rfl rfl (by kernel_rfl) fun R hR => ?_
  simp only [push_cast, Nat.reduceBEq, Nat.reduceLeDiff, Nat.reduceAdd]
  refine (Tryz.strings_TrimRight_one s 61 (by decide) w (by omega)).mono ?_
  rintro e w0 ⟨rfl, he⟩
  replace he := he.symm
  subst he
  rw [show (⟨(Lib.trimRightB s.data.toList 61).toArray⟩ : ByteArray) = mkS (Lib.trimRightB (toL s) 61) from rfl]
  have htl := trimR_len (toL s) 61
  rw [toL_len] at htl
  rw [fromS] at hR
  generalize Lib.trimRightB (toL s) 61 = t at *
  simp only [push_cast, Nat.reduceBEq, Nat.reduceLeDiff, Nat.reduceAdd]
  refine (swap_ (mkS t) [45, 95] [43, 47] sw_ok1 (by rw [size_mkS]; omega) w).mono ?_
  rintro e w1 ⟨rfl, hb1⟩
  rw [toL_mkS]
  by_cases h1 : t.map (swB [45, 95] [43, 47]) = t
  case neg =>
    rw [if_neg h1] at hR
    have q1 : decide (mkS (t.map (swB [45, 95] [43, 47])) ≠ mkS t) = true := decide_eq_true (fun h => h1 (mkS_inj h))
    simp only [push_cast, Nat.reduceBEq, Nat.reduceLeDiff, Nat.reduceAdd, q1]
    exact hR _ _ ⟨rfl, hb1⟩
  rw [if_pos h1] at hR
  have q1 : decide (mkS (t.map (swB [45, 95] [43, 47])) ≠ mkS t) = false := decide_eq_false (fun h => h (by rw [h1]))
  simp only [push_cast, Nat.reduceBEq, Nat.reduceLeDiff, Nat.reduceAdd, q1, size_mkS]
  refine (pad_ t.length (by omega) w1).mono ?_
  rintro e w2 ⟨rfl, hb2⟩
  have hpl := padS_len t.length
  have hb02 := hb1.trans (hb2.mono hb1.size)
  simp only [push_cast, Nat.reduceBEq, Nat.reduceLeDiff, Nat.reduceAdd, size_mkS]
  rw [← mkS_app2]
  refine ⟨by omega, ?_⟩
  by_cases h2 : t ++ padS t.length = toL s
  case neg =>
    rw [if_neg h2] at hR
    have q2 : decide (mkS (t ++ padS t.length) ≠ s) = true := decide_eq_true (fun h => h2 ((mkS_eq _ _).1 h))
    simp only [push_cast, Nat.reduceBEq, Nat.reduceLeDiff, Nat.reduceAdd, q2]
    exact hR _ _ ⟨rfl, hb02⟩
  rw [if_pos h2] at hR
  have q2 : decide (mkS (t ++ padS t.length) ≠ s) = false := decide_eq_false (fun h => h ((mkS_eq _ _).2 h2))
  simp only [push_cast, Nat.reduceBEq, Nat.reduceLeDiff, Nat.reduceAdd, q2]
  refine (swap_ (mkS t) [43, 47] [45, 95] sw_ok2 (by rw [size_mkS]; omega) w2).mono ?_
  rintro e w3 ⟨rfl, hb3⟩
  rw [toL_mkS]
  simp only [push_cast, Nat.reduceBEq, Nat.reduceLeDiff, Nat.reduceAdd]
  refine (Decode_ (mkS (t.map (swB [43, 47] [45, 95]))) w3 (by rw [size_mkS, List.length_map]; omega)).mono ?_
  rintro e w4 ⟨hP, hb4⟩
  rw [toL_mkS] at hP
  have hb03 := hb02.trans (hb3.mono hb02.size)
  have hb04 := hb03.trans (hb4.mono hb03.size)
  cases hd : decS (t.map (swB [43, 47] [45, 95])) with
  | none =>
    rw [hd] at hP hR
    cases hP
    simp only [push_cast, Nat.reduceBEq, Nat.reduceLeDiff, Nat.reduceAdd]
    exact hR _ _ ⟨rfl, hb04⟩
  | some o =>
    rw [hd] at hP hR
    obtain ⟨v, rfl, hB, hcap⟩ := hP
    simp only [push_cast, Nat.reduceBEq, Nat.reduceLeDiff, Nat.reduceAdd]
    exact hR _ _ ⟨⟨v, rfl, hB, hcap⟩, hb04⟩
end Go.Proofs.YtciepffocobgpaaGreatDoor
/-! A Basic credential, read. -/
namespace Go.Proofs.YtciepffocobgpaaGreatDoor
open Go Go.Sx Go.RowKit
set_option linter.unusedSimpArgs false
set_option linter.unusedVariables false
theorem dec6_len : ∀ (l : Bytes) (v n : Nat) (p : Bytes × (Nat × Nat)), dec6 v n l = some p → p.1.length ≤ l.length
  | [], v, n, p, h => by rw [dec6] at h; cases h; simp
  | c :: r, v, n, p, h => by
    rw [dec6] at h
    split at h
    · cases h
    · split at h
      · obtain ⟨q, hq, rfl⟩ := Option.map_eq_some_iff.1 h
        have := dec6_len r _ _ q hq
        simp only [List.length_cons]; omega
      · have := dec6_len r _ _ p h
        simp only [List.length_cons]; omega
theorem decS_len {l o : Bytes} (h : decS l = some o) : o.length ≤ l.length := by
  unfold decS at h
  cases hd : dec6 0 0 l with
  | none => rw [hd] at h; cases h
  | some p =>
    rw [hd] at h
    simp only at h
    split at h
    · cases h
    · cases h; exact dec6_len l 0 0 p hd
theorem fromS_len {s o : Bytes} (h : fromS s = some o) : o.length ≤ s.length := by
  unfold fromS at h
  split at h
  · split at h
    · have := decS_len h
      rw [List.length_map] at this
      exact Nat.le_trans this (trimR_len s 61)
    · cases h
  · cases h
def basicS (s : Bytes) : Except Int (Bytes × Bytes) :=
  match fromS s with
  | none => .error 10
  | some o => match cut1 58 o with
    | none => .error 10
    | some (a, b) => if told a = true then if told b = true then .ok (a, b) else .error 30 else .error 30
def basicV (o : Except Int (Bytes × Bytes)) : Value := match o with
  | .ok (a, b) => .tuple #[.string (mkS a), .string (mkS b), .int .i64 0]
  | .error e => .tuple #[.string ⟨#[]⟩, .string ⟨#[]⟩, .int .i64 e]
theorem Basic_ (s : ByteArray) (w : World) (hG : G w) (hs : s.size ≤ 1000000) :
    Calls Tryz.prog 19 #[.string s] w fun e w' => e = .returned (basicV (basicS (toL s))) ∧ Below w.heap.size w w' := by
  have q10 : decide ((10 : Int) ≠ 0) = true := by decide
  have q0 : decide ((0 : Int) ≠ 0) = false := by decide
  refine calls_X Tryz.func19 rfl Tryz.ntmps19 Tryz.results19 rfl rfl (by kernel_rfl) fun R hR => ?_
  simp only [push_cast, Nat.reduceBEq, Nat.reduceLeDiff, Nat.reduceAdd, q10, q0]
  refine (FromStandard_ s w hs).mono ?_
  rintro e w1 ⟨hP, hb1⟩
  have hG1 := hG.step hb1 hG.size
  rw [basicS] at hR
  cases hf : fromS (toL s) with
  | none =>
    rw [hf] at hP hR
    cases hP
    simp only [push_cast, Nat.reduceBEq, Nat.reduceLeDiff, Nat.reduceAdd, q10, q0]
    exact hR _ _ ⟨rfl, hb1⟩
  | some o =>
    have hol := fromS_len hf
    rw [toL_len] at hol
    rw [hf] at hP hR
    simp only at hR
    obtain ⟨v, rfl, hB, hcap⟩ := hP
    clear hcap
    obtain ⟨A, cc, rfl, _⟩ := bytesAt_shape hB
    simp only [push_cast, Nat.reduceBEq, Nat.reduceLeDiff, Nat.reduceAdd, q10, q0, conv_back hB]
    obtain ⟨m, hm⟩ := hG1.max
    refine (Tryz.strings_Cut (mkS o) _ m w1 (by rw [size_mkS]; omega) hm).mono ?_
    rintro e w2 ⟨rfl, n, hw2⟩
    have hb2 : Below w1.heap.size w1 w2 := hw2 ▸ drewN_below w1 n
    clear hw2
    have hb02 := hb1.trans (hb2.mono hb1.size)
    rw [show (⟨#[58]⟩ : ByteArray).data.toList = [58] from rfl, show (mkS o).data.toList = toL (mkS o) from rfl, toL_mkS, cut_one]
    cases hc : cut1 58 o with
    | none =>
      rw [hc] at hR
      simp only at hR
      simp only [push_cast, Nat.reduceBEq, Nat.reduceLeDiff, Nat.reduceAdd, q10, q0]
      exact hR _ _ ⟨rfl, hb02⟩
    | some ab =>
      obtain ⟨a, b⟩ := ab
      have hab := cut1_len hc
      rw [hc] at hR
      simp only at hR
      simp only [push_cast, Nat.reduceBEq, Nat.reduceLeDiff, Nat.reduceAdd, q10, q0]
      refine (Told_ (mkS a) (by rw [size_mkS]; omega) w2).mono ?_
      rintro e w3 ⟨rfl, hb3⟩
      have hb03 := hb02.trans (hb3.mono hb02.size)
      rw [toL_mkS]
      cases ha : told a with
      | false =>
        rw [ha, if_neg (by decide)] at hR
        simp only [push_cast, Nat.reduceBEq, Nat.reduceLeDiff, Nat.reduceAdd, q10, q0, Bool.not_false]
        exact hR _ _ ⟨rfl, hb03⟩
      | true =>
        rw [ha, if_pos rfl] at hR
        simp only [push_cast, Nat.reduceBEq, Nat.reduceLeDiff, Nat.reduceAdd, q10, q0, Bool.not_true]
        refine (Told_ (mkS b) (by rw [size_mkS]; omega) w3).mono ?_
        rintro e w4 ⟨rfl, hb4⟩
        have hb04 := hb03.trans (hb4.mono hb03.size)
        rw [toL_mkS]
        cases hbt : told b with
        | false =>
          rw [hbt, if_neg (by decide)] at hR
          simp only [push_cast, Nat.reduceBEq, Nat.reduceLeDiff, Nat.reduceAdd, q10, q0, Bool.not_false]
          exact hR _ _ ⟨rfl, hb04⟩
        | true =>
          rw [hbt, if_pos rfl] at hR
          simp only [push_cast, Nat.reduceBEq, Nat.reduceLeDiff, Nat.reduceAdd, q10, q0, Bool.not_true]
          exact hR _ _ ⟨rfl, hb04⟩
end Go.Proofs.YtciepffocobgpaaGreatDoor
/-! Base 64: what is written is read again. -/
namespace Go.Proofs.YtciepffocobgpaaGreatDoor
open Go Go.Sx Go.RowKit
set_option linter.unusedSimpArgs false
set_option linter.unusedVariables false
theorem ix_chr : ∀ d, d < 64 → ix6 (chr6 d) = (d : Int) := by decide +kernel
theorem dec6_chr (v n d : Nat) (rest : Bytes) (hd : d < 64) : dec6 v n (chr6 d :: rest) = if 8 ≤ n + 6 then (dec6 ((v * 2 ^ 6 + d) % 2 ^ (n + 6 - 8)) (n + 6 - 8) rest).map fun p => (UInt8.ofNat ((v * 2 ^ 6 + d) / 2 ^ (n + 6 - 8)) :: p.1, p.2) else dec6 (v * 2 ^ 6 + d) (n + 6) rest := by
  rw [dec6, ix_chr d hd, if_neg (by omega), Int.toNat_natCast]
def St6 (v n v' n' : Nat) (pre : Bytes) : Prop :=
  (n = 0 ∧ v = 0 ∧ n' = 0 ∧ v' = 0 ∧ pre = []) ∨ (n = 2 ∧ v < 4 ∧ n' = 6 ∧ v' < 64 ∧ pre = [UInt8.ofNat (v' * 4 + v)]) ∨ (n = 4 ∧ v < 16 ∧ n' = 4 ∧ v' < 16 ∧ pre = [UInt8.ofNat (v' * 16 + v)])
def tail6 (v n : Nat) : Bytes := if 0 < n then [chr6 (v * 2 ^ (6 - n))] else []
theorem ofNat_byte (x : UInt8) (k : Nat) (h : k = x.toNat) : UInt8.ofNat k = x := by subst h; exact UInt8.ofNat_toNat
theorem round6 : ∀ (l : Bytes) (v n v' n' : Nat) (pre : Bytes), St6 v n v' n' pre → ∃ e, dec6 v' n' ((enc6 v n l).1 ++ tail6 (enc6 v n l).2.1 (enc6 v n l).2.2) = some (pre ++ l, (0, e)) ∧ e < 6
  | [], v, n, v', n', pre, h => by
    rcases h with ⟨rfl, rfl, rfl, rfl, rfl⟩ | ⟨rfl, hv, rfl, hv', rfl⟩ | ⟨rfl, hv, rfl, hv', rfl⟩
    · exact ⟨0, by simp [enc6, tail6, dec6], by decide⟩
    · refine ⟨4, ?_, by decide⟩
      rw [enc6, tail6, if_pos (Nat.succ_pos _), List.nil_append, dec6_chr _ _ _ _ (by simp only [Nat.reduceSub, Nat.reducePow]; omega), if_pos (by decide), dec6]
      simp only [Nat.reduceSub, Nat.reduceAdd, Nat.reducePow, Option.map_some, List.append_nil]
      congr 3 <;> first | omega | (congr 1; first | (congr 1; omega) | omega)
    · refine ⟨2, ?_, by decide⟩
      rw [enc6, tail6, if_pos (Nat.succ_pos _), List.nil_append, dec6_chr _ _ _ _ (by simp only [Nat.reduceSub, Nat.reducePow]; omega), if_pos (by decide), dec6]
      simp only [Nat.reduceSub, Nat.reduceAdd, Nat.reducePow, Option.map_some, List.append_nil]
      congr 3 <;> first | omega | (congr 1; first | (congr 1; omega) | omega)
  | x :: r, v, n, v', n', pre, h => by
    have hx := x.toNat_lt
    rcases h with ⟨rfl, rfl, rfl, rfl, rfl⟩ | ⟨rfl, hv, rfl, hv', rfl⟩ | ⟨rfl, hv, rfl, hv', rfl⟩
    · have hd : dr6 3 (0 * 2 ^ 8 + x.toNat) (0 + 8) = ([chr6 (x.toNat / 4)], (x.toNat % 4, 2)) := by simp [dr6]
      obtain ⟨e, he, hl⟩ := round6 r (x.toNat % 4) 2 (x.toNat / 4) 6 [x] (.inr (.inl ⟨rfl, by omega, rfl, by omega, by rw [ofNat_byte x _ (by omega)]⟩))
      refine ⟨e, ?_, hl⟩
      rw [enc6, hd]
      simp only [List.cons_append, List.nil_append, List.append_assoc]
      rw [dec6_chr _ _ _ _ (by omega), if_neg (by omega)]
      simpa using he
    · have hd : dr6 3 (v * 2 ^ 8 + x.toNat) (2 + 8) = ([chr6 ((v * 256 + x.toNat) / 16)], (x.toNat % 16, 4)) := by
        have : (v * 256 + x.toNat) % 16 = x.toNat % 16 := by omega
        simp [dr6, this]
      obtain ⟨e, he, hl⟩ := round6 r (x.toNat % 16) 4 (x.toNat / 16) 4 [x] (.inr (.inr ⟨rfl, by omega, rfl, by omega, by rw [ofNat_byte x _ (by omega)]⟩))
      refine ⟨e, ?_, hl⟩
      rw [enc6, hd]
      simp only [List.cons_append, List.nil_append, List.append_assoc]
      rw [dec6_chr _ _ _ _ (by omega), if_pos (by omega)]
      have e1 : (v' * 2 ^ 6 + (v * 256 + x.toNat) / 16) % 2 ^ (6 + 6 - 8) = x.toNat / 16 := by simp only [Nat.reduceAdd, Nat.reduceSub, Nat.reducePow]; omega
      have e2 : (v' * 2 ^ 6 + (v * 256 + x.toNat) / 16) / 2 ^ (6 + 6 - 8) = v' * 4 + v := by simp only [Nat.reduceAdd, Nat.reduceSub, Nat.reducePow]; omega
      rw [e1, e2]
      simp only [Nat.reduceAdd, Nat.reduceSub]
      rw [he]; rfl
    · have hd : dr6 3 (v * 2 ^ 8 + x.toNat) (4 + 8) = ([chr6 ((v * 256 + x.toNat) / 64), chr6 (x.toNat % 64)], (0, 0)) := by
        have : (v * 256 + x.toNat) % 64 = x.toNat % 64 := by omega
        simp [dr6, this, Nat.mod_one]
      obtain ⟨e, he, hl⟩ := round6 r 0 0 0 0 [] (.inl ⟨rfl, rfl, rfl, rfl, rfl⟩)
      refine ⟨e, ?_, hl⟩
      rw [enc6, hd]
      simp only [List.cons_append, List.nil_append, List.append_assoc]
      rw [dec6_chr _ _ _ _ (by omega), if_pos (by omega)]
      have e1 : (v' * 2 ^ 6 + (v * 256 + x.toNat) / 64) % 2 ^ (4 + 6 - 8) = x.toNat / 64 := by simp only [Nat.reduceAdd, Nat.reduceSub, Nat.reducePow]; omega
      have e2 : (v' * 2 ^ 6 + (v * 256 + x.toNat) / 64) / 2 ^ (4 + 6 - 8) = v' * 16 + v := by simp only [Nat.reduceAdd, Nat.reduceSub, Nat.reducePow]; omega
      rw [e1, e2]
      simp only [Nat.reduceAdd, Nat.reduceSub]
      rw [dec6_chr _ _ _ _ (by omega), if_pos (by omega)]
      have e3 : (x.toNat / 64 * 2 ^ 6 + x.toNat % 64) % 2 ^ (2 + 6 - 8) = 0 := by simp only [Nat.reduceAdd, Nat.reduceSub, Nat.reducePow]; omega
      have e4 : (x.toNat / 64 * 2 ^ 6 + x.toNat % 64) / 2 ^ (2 + 6 - 8) = x.toNat := by simp only [Nat.reduceAdd, Nat.reduceSub, Nat.reducePow]; omega
      rw [e3, e4]
      simp only [Nat.reduceAdd, Nat.reduceSub]
      rw [he, ofNat_byte x _ rfl]; rfl
theorem dec_enc (l : Bytes) : decS (encS l) = some l := by
  obtain ⟨e, he, hl⟩ := round6 l 0 0 0 0 [] (.inl ⟨rfl, rfl, rfl, rfl, rfl⟩)
  have h1 : encS l = (enc6 0 0 l).1 ++ tail6 (enc6 0 0 l).2.1 (enc6 0 0 l).2.2 := by
    rw [encS, tail6]; split <;> simp
  rw [decS, h1, he]
  simp only [List.nil_append]
  rw [if_neg (by omega)]
end Go.Proofs.YtciepffocobgpaaGreatDoor
/-! Plain base 64: what is written is read again. -/
namespace Go.Proofs.YtciepffocobgpaaGreatDoor
open Go Go.Sx Go.RowKit
set_option linter.unusedSimpArgs false
set_option linter.unusedVariables false
theorem dec6_all : ∀ (l : Bytes) (v n : Nat) (p : Bytes × (Nat × Nat)), dec6 v n l = some p → ∀ c ∈ l, 0 ≤ ix6 c
  | [], v, n, p, h => by simp
  | c :: r, v, n, p, h => by
    rw [dec6] at h
    intro y hy
    split at h
    · cases h
    · rename_i hc
      rcases List.mem_cons.1 hy with rfl | hy
      · omega
      · split at h
        · obtain ⟨q, hq, rfl⟩ := Option.map_eq_some_iff.1 h
          exact dec6_all r _ _ q hq y hy
        · exact dec6_all r _ _ p h y hy
theorem encS_all (l : Bytes) : ∀ c ∈ encS l, 0 ≤ ix6 c := by
  have h := dec_enc l
  unfold decS at h
  cases hd : dec6 0 0 (encS l) with
  | none => rw [hd] at h; cases h
  | some p => exact dec6_all _ _ _ p hd
theorem sw_facts : ∀ x : UInt8, 0 ≤ ix6 x → swB [45, 95] [43, 47] x ≠ 61 ∧ swB [45, 95] [43, 47] (swB [45, 95] [43, 47] x) = swB [45, 95] [43, 47] x ∧ swB [43, 47] [45, 95] (swB [45, 95] [43, 47] x) = x := by
  intro x
  have := byte_all (fun x => decide (0 ≤ ix6 x → swB [45, 95] [43, 47] x ≠ 61 ∧ swB [45, 95] [43, 47] (swB [45, 95] [43, 47] x) = swB [45, 95] [43, 47] x ∧ swB [43, 47] [45, 95] (swB [45, 95] [43, 47] x) = x)) (by kernel_rfl) x
  exact of_decide_eq_true this
theorem tr61_snoc (a : Bytes) : Lib.trimRightB (a ++ [61]) 61 = Lib.trimRightB a 61 := by simp [Lib.trimRightB]
theorem tr61_stop (t : Bytes) (h : ∀ x ∈ t, x ≠ 61) : Lib.trimRightB t 61 = t := by
  unfold Lib.trimRightB
  rcases hr : t.reverse with _ | ⟨y, ys⟩
  · rw [List.reverse_eq_nil_iff] at hr; subst hr; rfl
  · have hy : y ≠ 61 := h y (by rw [← List.mem_reverse, hr]; exact List.mem_cons_self ..)
    rw [List.dropWhile_cons_of_neg (by simpa using hy), ← hr, List.reverse_reverse]
theorem tr61_pad (t : Bytes) (n : Nat) (h : ∀ x ∈ t, x ≠ 61) : Lib.trimRightB (t ++ padS n) 61 = t := by
  have : (4 - n % 4) % 4 < 4 := Nat.mod_lt _ (by decide)
  unfold padS
  have e0 : Lib.repeatL ([61] : Bytes) 0 = [] := by decide
  have e1 : Lib.repeatL ([61] : Bytes) 1 = [61] := by decide
  have e2 : Lib.repeatL ([61] : Bytes) 2 = [61] ++ [61] := by decide
  have e3 : Lib.repeatL ([61] : Bytes) 3 = [61] ++ [61] ++ [61] := by decide
  rcases (by omega : (4 - n % 4) % 4 = 0 ∨ (4 - n % 4) % 4 = 1 ∨ (4 - n % 4) % 4 = 2 ∨ (4 - n % 4) % 4 = 3) with h' | h' | h' | h' <;> rw [h']
  · rw [e0, List.append_nil]; exact tr61_stop t h
  · rw [e1, tr61_snoc]; exact tr61_stop t h
  · rw [e2, ← List.append_assoc, tr61_snoc, tr61_snoc]; exact tr61_stop t h
  · rw [e3, ← List.append_assoc, ← List.append_assoc, tr61_snoc, tr61_snoc, tr61_snoc]; exact tr61_stop t h
theorem from_std (l : Bytes) : fromS (stdS l) = some l := by
  have hall := encS_all l
  have h61 : ∀ x ∈ (encS l).map (swB [45, 95] [43, 47]), x ≠ 61 := by
    intro x hx
    obtain ⟨y, hy, rfl⟩ := List.mem_map.1 hx
    exact (sw_facts y (hall y hy)).1
  have ht : Lib.trimRightB (stdS l) 61 = (encS l).map (swB [45, 95] [43, 47]) := by rw [stdS]; exact tr61_pad _ _ h61
  have h1 : ((encS l).map (swB [45, 95] [43, 47])).map (swB [45, 95] [43, 47]) = (encS l).map (swB [45, 95] [43, 47]) := by
    rw [List.map_map]; exact List.map_congr_left fun y hy => (sw_facts y (hall y hy)).2.1
  have h2 : ((encS l).map (swB [45, 95] [43, 47])).map (swB [43, 47] [45, 95]) = encS l := by
    rw [List.map_map]
    exact (List.map_congr_left fun y hy => (sw_facts y (hall y hy)).2.2).trans (List.map_id _)
  rw [fromS, ht, if_pos h1, if_pos (by rw [stdS]), h2]
  exact dec_enc l
end Go.Proofs.YtciepffocobgpaaGreatDoor
