/- The contracts of package http, as far as Parse. -/
import Derived.Test.YtciepffocobgpaaGreatDoorMb
import Derived.Laws.RangeAny
import Derived.Tactics
import Derived.Tactics2
import Derived.Defers
import Derived.Recover
import Derived.Laws.Pointers
import Derived.RegionTactic
import Derived.BigRegion
import Derived.Laws.BytesArg
namespace Go.Proofs.YtciepffocobgpaaGreatDoor
open Go Go.Sx Go.RowKit
set_option linter.unusedSimpArgs false
def die (e : Int) : Ending := .panicked [{ v := .iface 83 (.agg #[.int .i64 e]), recovered := false }]
theorem bld83 (e : Int) (w : World) : Sem.run Tryz.prog (Instr.build 83 #[(0, .int .i64 e)]) w = .ok (.agg #[.int .i64 e]) w := by kernel_rfl
theorem must_ (b : Bool) (e : Int) (w : World) :
    Calls Tryz.prog 48 #[.bool b, .int .i64 e] w fun r w' => r = (if b = true then .returned (.tuple #[]) else die e) ∧ w = w' := by
  refine calls_X Tryz.func48 rfl Tryz.ntmps48 Tryz.results48 rfl rfl (by kernel_rfl) fun R hR => ?_
  simp only [push_cast, Nat.reduceBEq, Nat.reduceBeqDiff, cond_true, cond_false, bld83]
  cases b
  · exact ⟨fun _ => hR _ _ ⟨rfl, rfl⟩, fun h => by cases h⟩
  · exact ⟨(fun h => by cases h), fun _ => hR _ _ ⟨rfl, rfl⟩⟩
theorem line_ (s : ByteArray) (m : Int) (hs : s.size < 4294967281) (w : World) (hm : w.cell? ⟨0, 0, none⟩ = some (.int .i64 m)) :
    Calls Tryz.prog 49 #[.string s] w fun e w' => e = (match cutLine (toL s) with | some (a, b) => .returned (.tuple #[.string (mkS a), .string (mkS b)]) | none => die 31) ∧ Below w.heap.size w w' := by
  refine calls_X Tryz.func49 rfl Tryz.ntmps49 Tryz.results49 rfl rfl (by kernel_rfl) fun R hR => ?_
  simp only [push_cast, Nat.reduceBEq, Nat.reduceLeDiff, Nat.reduceAdd]
  refine (Tryz.strings_Cut s _ m w hs hm).mono ?_
  rintro e w1 ⟨rfl, n, rfl⟩
  rw [show (⟨#[13, 10]⟩ : ByteArray).data.toList = [13, 10] from rfl, show s.data.toList = toL s from rfl, cut_line]
  have hb := drewN_below w n
  cases hc : cutLine (toL s) with
  | none =>
    simp only [push_cast, Nat.reduceBEq, Nat.reduceLeDiff, Nat.reduceAdd]
    refine (must_ _ _ _).mono ?_
    rintro e w1 ⟨rfl, rfl⟩
    simp only [push_cast, Nat.reduceBEq, Nat.reduceLeDiff, Nat.reduceAdd, if_false, Bool.false_eq_true, die]
    exact hR _ _ ⟨by rw [hc]; rfl, hb⟩
  | some ab =>
    obtain ⟨a, b⟩ := ab
    simp only [push_cast, Nat.reduceBEq, Nat.reduceLeDiff, Nat.reduceAdd]
    refine (must_ _ _ _).mono ?_
    rintro e w1 ⟨rfl, rfl⟩
    simp only [push_cast, Nat.reduceBEq, Nat.reduceLeDiff, Nat.reduceAdd, if_true]
    exact hR _ _ ⟨by rw [hc]; rfl, hb⟩
end Go.Proofs.YtciepffocobgpaaGreatDoor
namespace Go.Proofs.YtciepffocobgpaaGreatDoor
open Go Go.Sx Go.RowKit
set_option linter.unusedSimpArgs false
/-- The world whose iterator at block b stands at p. -/
def itW (w : World) (b : Nat) (s : ByteArray) (p : Nat) : World := { w with heap := w.heap.setIfInBounds b (.stringIter s p) }
theorem itW_below {B b : Nat} (w : World) (s : ByteArray) (p : Nat) (h : B ≤ b) : Below B w (itW w b s p) :=
  ⟨rfl, rfl, rfl, by simp [itW], fun k hk => by simp only [itW]; rw [Array.getElem?_setIfInBounds_ne (by omega)]⟩
theorem itW_at (w : World) (b : Nat) (s : ByteArray) (p : Nat) (h : b < w.heap.size) : (itW w b s p).heap[b]? = some (.stringIter s p) := by
  simp only [itW]; rw [Array.getElem?_setIfInBounds_self_of_lt h]
theorem next_at (w : World) (b : Nat) (s : ByteArray) (p : Nat) (ty : TypeId) (h : w.heap[b]? = some (.stringIter s p)) (hp : p < s.size) :
    Sem.run Tryz.prog (Instr.next (.pointer (some ⟨b, 0, none⟩)) true ty) w = .ok (.tuple #[.bool true, .int .i64 p, .int .i32 (Utf8.decode s p).1]) (itW w b s (p + (Utf8.decode s p).2)) := by
  simp only [Instr.next, getObj, setObj, Sem.run_bind, Sem.run, h, Result.andThen, hp, if_true]
  simp [goInt, itW]
theorem next_end (w : World) (b : Nat) (s : ByteArray) (p : Nat) (ty : TypeId) (h : w.heap[b]? = some (.stringIter s p)) (hp : ¬ p < s.size) :
    Sem.run Tryz.prog (Instr.next (.pointer (some ⟨b, 0, none⟩)) true ty) w = .ok (.tuple #[.bool false]) w := by
  simp [Instr.next, getObj, Sem.run, h, hp]
theorem range_new (w : World) (s : ByteArray) : Sem.run Tryz.prog (Instr.range 9 (.string s)) w = .ok (.pointer (some ⟨w.heap.size, 0, none⟩)) (w.iter s 0) := run_range_string w 9 s Tryz.underlying9
theorem iter_below (w : World) (s : ByteArray) (p : Nat) : Below w.heap.size w (w.iter s p) := (Below.refl _ _).alloc (Nat.le_refl _) _
theorem heap_below' {B : Nat} {w w' : World} (hb : Below B w w') {k : Nat} {o : Obj} (hk : k < B) (h : w.heap[k]? = some o) : w'.heap[k]? = some o := by rw [hb.block k hk]; exact h
def ascii (l : Bytes) : Prop := ∀ c ∈ l, c.toNat < 128
theorem ascii_get {s : ByteArray} (h : ascii (toL s)) (p : Nat) (hp : p < s.size) : (s[p]'hp).toNat < 128 := h _ (by simp only [toL]; exact Array.mem_toList_iff.2 (Array.getElem_mem hp))
theorem getL (s : ByteArray) (p : Nat) (hp : p < s.size) : (toL s)[p]? = some (s[p]'hp) := by simp [toL, hp]; rfl
theorem any_rune {chars : Bytes} (hc : ascii chars) (x : UInt8) (r : Nat) (h1 : x.toNat < 128 → r = x.toNat) (h2 : 128 ≤ x.toNat → 128 ≤ r) : (chars.any fun c => decide ((r : Int) = c.toNat)) = chars.contains x := by
  rw [Bool.eq_iff_iff, List.any_eq_true, List.contains_iff_mem]
  constructor
  · rintro ⟨c, hm, hcr⟩
    have hc7 := hc c hm
    have e : (r : Int) = c.toNat := by simpa using hcr
    rcases Nat.lt_or_ge x.toNat 128 with hx | hx
    · have := h1 hx
      have : x = c := UInt8.toNat_inj.1 (by omega)
      rw [this]; exact hm
    · have := h2 hx; omega
  · intro hm
    have := h1 (hc x hm)
    exact ⟨x, hm, by simp; omega⟩
theorem found_eq {chars : Bytes} (hc : ascii chars) (s : ByteArray) (p : Nat) (hp : p < s.size) : (chars.any fun c => decide (((Utf8.decode s p).1 : Int) = c.toNat)) = chars.contains (s[p]'hp) :=
  any_rune hc _ _ (fun h => by rw [decode_ascii s p hp h]) (fun h => (decode_high s p hp h).1)
theorem take_any (chars : ByteArray) (q : Nat) (hq : q < chars.size) (f : UInt8 → Bool) : ((toL chars).take (q + 1)).any f = (((toL chars).take q).any f || f (chars[q]'hq)) := by
  have hq' : q < (toL chars).length := by rw [toL_len]; exact hq
  rw [List.take_succ_eq_append_getElem hq', List.any_append]
  have hx : (toL chars)[q] = chars[q]'hq := by simp [toL]; rfl
  simp [hx]
theorem cutLeft (s chars : ByteArray) (hc : ascii (toL chars)) (hs : s.size ≤ 9223372036854775807) (hcs : chars.size ≤ 1000) (w : World) :
    Calls Tryz.prog 94 #[.string s, .string chars] w fun e w' => e = .returned (.string (mkS ((toL s).dropWhile fun c => (toL chars).contains c))) ∧ Below w.heap.size w w' := by
  refine calls_X Tryz.func94 rfl Tryz.ntmps94 Tryz.results94 rfl rfl (by kernel_rfl) fun R hR => ?_
  simp only [push_cast, Nat.reduceBEq, Nat.reduceLeDiff, Nat.reduceAdd, range_new]
  generalize hP : (fun c => (toL chars).contains c) = P
  refine law_loop [(4, 7), (9, 9), (12, 31)] (fun n h w' => ∃ p : Nat, p ≤ s.size ∧ n = s.size - p ∧ w'.heap[w.heap.size]? = some (.stringIter s p) ∧ (toL s).dropWhile P = ((toL s).drop p).dropWhile P ∧ Below w.heap.size w w') s.size ⟨0, by omega, by omega, World.iter_heap _ _ _, rfl, iter_below _ _ _⟩ ?_
  rintro n h w2 ⟨p, hp, hn, hit, hdw, hb⟩ T hT
  have hbl : w.heap.size < w2.heap.size := (Array.getElem?_eq_some_iff.1 hit).1
  by_cases hc1 : p < s.size
  · have hd := List.drop_eq_getElem_cons (l := toL s) (i := p) (by rw [toL_len]; exact hc1)
    have hx : (toL s)[p]'(by rw [toL_len]; exact hc1) = s[p]'hc1 := by simp [toL]; rfl
    rw [hx] at hd
    simp only [push_cast, Nat.reduceBEq, Nat.reduceLeDiff, Nat.reduceAdd, next_at w2 _ s p _ hit hc1, range_new]
    generalize hw3 : itW w2 w.heap.size s (p + (Utf8.decode s p).2) = w3
    have hb3 : Below w.heap.size w2 w3 := by rw [← hw3]; exact itW_below _ _ _ (Nat.le_refl _)
    have hit3 : w3.heap[w.heap.size]? = some (.stringIter s (p + (Utf8.decode s p).2)) := by rw [← hw3]; exact itW_at _ _ _ _ hbl
    have hs3 := hb3.size
    refine law_loop [(7, 7), (9, 9), (18, 26)] (fun n h w' => ∃ q : Nat, q ≤ chars.size ∧ n = chars.size - q ∧ w'.heap[w3.heap.size]? = some (.stringIter chars q) ∧ h 7 = .bool (((toL chars).take q).any fun c => decide (((Utf8.decode s p).1 : Int) = c.toNat)) ∧ Below w3.heap.size w3 w') chars.size ⟨0, by omega, by omega, World.iter_heap _ _ _, ?_, iter_below _ _ _⟩ ?_
    · simp only [push_cast, Nat.reduceBEq, Nat.reduceLeDiff, Nat.reduceAdd, List.take_zero, List.any_nil]
    rintro n2 h2 w4 ⟨q, hq, hn2, hit4, h7, hb4⟩ T2 hT2
    by_cases hc2 : q < chars.size
    · have ha := ascii_get hc q hc2
      have hdec := decode_ascii chars q hc2 ha
      simp only [push_cast, Nat.reduceBEq, Nat.reduceLeDiff, Nat.reduceAdd, next_at w4 _ chars q _ hit4 hc2, hdec, h7]
      refine hT2 (chars.size - (q + 1)) _ _ (by simp only [push_cast, Nat.reduceBEq, Nat.reduceLeDiff]) (by omega) ⟨q + 1, by omega, rfl, itW_at _ _ _ _ (Array.getElem?_eq_some_iff.1 hit4).1, ?_, hb4.trans (itW_below _ _ _ (Nat.le_refl _))⟩
      simp only [push_cast, Nat.reduceBEq, Nat.reduceLeDiff, take_any chars q hc2]
    · simp only [push_cast, Nat.reduceBEq, Nat.reduceLeDiff, Nat.reduceAdd, next_end w4 _ chars q _ hit4 hc2, h7]
      rw [take_all chars q (by omega), found_eq hc s p hc1]
      have hPx : (toL chars).contains (s[p]'hc1) = P (s[p]'hc1) := by rw [← hP]
      rw [hPx]
      refine ⟨fun hf => ⟨⟨by omega, by omega⟩, hR _ _ ⟨?_, hb.trans (hb3.trans (hb4.mono (by omega)))⟩⟩, fun hf => ?_⟩
      · simp only [Bool.not_eq_true'] at hf
        rw [hP, hdw, hd, List.dropWhile_cons_of_neg (by rw [hf]; decide), ← hd, ← toL_from, mkS_toL]
      · simp only [Bool.not_eq_false'] at hf
        have h128 : (s[p]'hc1).toNat < 128 := by
          rw [← hPx] at hf
          exact hc _ (List.contains_iff_mem.1 hf)
        have hdec := decode_ascii s p hc1 h128
        rw [hdec] at hit3
        refine hT (s.size - (p + 1)) _ _ (by simp only [push_cast, Nat.reduceBEq, Nat.reduceLeDiff]) (by omega) ⟨p + 1, by omega, rfl, heap_below' hb4 (by omega) hit3, ?_, hb.trans (hb3.trans (hb4.mono (by omega)))⟩
        rw [hdw, hd, List.dropWhile_cons_of_pos hf]
  · simp only [push_cast, Nat.reduceBEq, Nat.reduceLeDiff, Nat.reduceAdd, next_end w2 _ s p _ hit hc1]
    refine hR _ _ ⟨?_, hb⟩
    rw [hP, hdw, List.drop_eq_nil_of_le (by rw [toL_len]; omega)]; rfl
end Go.Proofs.YtciepffocobgpaaGreatDoor
namespace Go.Proofs.YtciepffocobgpaaGreatDoor
open Go Go.Sx Go.RowKit
set_option linter.unusedSimpArgs false
/-- What the library's package-level variables hold. -/
structure G (w : World) : Prop where
  size : 9 ≤ w.heap.size
  max : ∃ m, w.cell? ⟨0, 0, none⟩ = some (.int .i64 m)
  utf : Lib.Utf8Tabs 4 5 w
  pow : Lib.TabIs Tryz.prog w "internal/strconv.uint64pow10" .u64 Lib.pow10Tab
theorem powNamed : Tryz.prog.globalNamed "internal/strconv.uint64pow10" = some 3 := by kernel_rfl
theorem G.step {w w' : World} {B : Nat} (h : G w) (hb : Below B w w') (hB : 9 ≤ B) : G w' := by
  refine ⟨Nat.le_trans h.size hb.size, ?_, ⟨fun c hc => ?_, fun i hi => ⟨?_, ?_⟩⟩, ?_⟩
  · obtain ⟨m, hm⟩ := h.max
    exact ⟨m, (hb.cell (p := ⟨0, 0, none⟩) (by show 0 < _; omega)).trans hm⟩
  · exact (hb.cell (p := ⟨4, c, none⟩) (by show 4 < _; omega)).trans (h.utf.1 c hc)
  · exact (hb.cell (p := ⟨5, 2 * i, none⟩) (by show 5 < _; omega)).trans (h.utf.2 i hi).1
  · exact (hb.cell (p := ⟨5, 2 * i + 1, none⟩) (by show 5 < _; omega)).trans (h.utf.2 i hi).2
  · have := h.pow
    unfold Lib.TabIs World.var? at this ⊢
    rw [powNamed] at this ⊢
    simp only [Option.bind_some] at this ⊢
    rw [hb.block 3 (by omega)]; exact this
theorem lastRune (l : Bytes) (x : UInt8) (a : Bytes) (h : l = a ++ [x]) : (x.toNat < 128 → Lib.decodeLastL l = (x.toNat, 1)) ∧ (128 ≤ x.toNat → 128 ≤ (Lib.decodeLastL l).1) := by
  have hne : l ≠ [] := by rw [h]; simp
  have hg : l.getD (l.length - 1) 0 = x := by rw [h]; simp
  constructor
  · intro hx
    unfold Lib.decodeLastL
    rw [if_neg hne, hg, if_pos hx]
  · intro hx
    unfold Lib.decodeLastL
    rw [if_neg hne, hg, if_neg (by omega)]
    simp only
    split
    · rename_i he
      have hlt := Lib.lastStart_lt l hne
      unfold Lib.decodeL at he ⊢
      have hsz : 0 < (⟨(l.drop (Lib.lastStart l)).toArray⟩ : ByteArray).size := by simp [ByteArray.size]; omega
      rcases Nat.lt_or_ge ((⟨(l.drop (Lib.lastStart l)).toArray⟩ : ByteArray)[0]'hsz).toNat 128 with h1 | h1
      · have hd := decode_ascii _ 0 hsz h1
        rw [hd] at he
        simp only at he
        exfalso
        have e1 : ((⟨(l.drop (Lib.lastStart l)).toArray⟩ : ByteArray)[0]'hsz) = x := by
          have e2 : Lib.lastStart l = l.length - 1 := by omega
          show (l.drop (Lib.lastStart l))[0]'_ = x
          rw [List.getElem_drop]
          have : l[Lib.lastStart l + 0]? = some x := by rw [e2, h]; simp
          rw [List.getElem?_eq_getElem (by omega)] at this
          exact Option.some.inj this
        rw [e1] at h1; omega
      · exact (decode_high _ 0 hsz h1).1
    · decide
theorem cutRight (s0 chars : ByteArray) (hc : ascii (toL chars)) (hs : s0.size ≤ 9223372036854775807) (hcs : chars.size ≤ 1000) (w : World) (hG : G w) :
    Calls Tryz.prog 93 #[.string s0, .string chars] w fun e w' => e = .returned (.string (mkS ((toL s0).reverse.dropWhile fun c => (toL chars).contains c).reverse)) ∧ Below w.heap.size w w' := by
  have hG9 := hG.size
  refine calls_X Tryz.func93 rfl Tryz.ntmps93 Tryz.results93 rfl rfl (by kernel_rfl) fun R hR => ?_
  simp only [push_cast, Nat.reduceBEq, Nat.reduceLeDiff, Nat.reduceAdd, range_new]
  generalize hP : (fun c => (toL chars).contains c) = P at hR
  refine law_loop [(0, 0), (4, 7), (9, 37)] (fun n h w' => ∃ s : ByteArray, s.size ≤ 9223372036854775807 ∧ n = s.size ∧ h 0 = .string s ∧ (toL s0).reverse.dropWhile P = (toL s).reverse.dropWhile P ∧ Below w.heap.size w w') s0.size ⟨s0, hs, rfl, rfl, rfl, Below.refl _ _⟩ ?_
  rintro n h w2 ⟨s, hs1, hn, h0, hdw, hb⟩ T hT
  simp only [push_cast, Nat.reduceBEq, Nat.reduceLeDiff, Nat.reduceAdd, h0]
  refine ⟨fun hc1 => ?_, fun hc1 => ?_⟩
  · simp only [decide_eq_true_eq] at hc1
    have hlen : 0 < (toL s).length := by rw [toL_len]; omega
    obtain ⟨a, x, hax⟩ : ∃ a x, toL s = a ++ [x] := ⟨(toL s).dropLast, (toL s).getLast (List.ne_nil_of_length_pos hlen), (List.dropLast_concat_getLast _).symm⟩
    have hal : a.length + 1 = s.size := by rw [← toL_len, hax]; simp
    have hlr := lastRune (toL s) x a hax
    refine (Tryz.utf8_DecodeLastRuneInString s w2 hs1 (hG.step hb hG9).utf).mono ?_
    rintro e w3 ⟨rfl, hb3⟩
    rw [show s.data.toList = toL s from rfl]
    have hs3 := hb3.size
    have hs2 := hb.size
    simp only [push_cast, Nat.reduceBEq, Nat.reduceLeDiff, Nat.reduceAdd, range_new]
    refine law_loop [(7, 7), (9, 9), (20, 28)] (fun n h w' => ∃ q : Nat, q ≤ chars.size ∧ n = chars.size - q ∧ w'.heap[w3.heap.size]? = some (.stringIter chars q) ∧ h 7 = .bool (((toL chars).take q).any fun c => decide (((Lib.decodeLastL (toL s)).1 : Int) = c.toNat)) ∧ Below w3.heap.size w3 w') chars.size ⟨0, by omega, by omega, World.iter_heap _ _ _, ?_, iter_below _ _ _⟩ ?_
    · simp only [push_cast, Nat.reduceBEq, Nat.reduceLeDiff, Nat.reduceAdd, List.take_zero, List.any_nil]
    rintro n2 h2 w4 ⟨q, hq, hn2, hit4, h7, hb4⟩ T2 hT2
    by_cases hc2 : q < chars.size
    · have ha := ascii_get hc q hc2
      have hdec := decode_ascii chars q hc2 ha
      simp only [push_cast, Nat.reduceBEq, Nat.reduceLeDiff, Nat.reduceAdd, next_at w4 _ chars q _ hit4 hc2, hdec, h7]
      refine hT2 (chars.size - (q + 1)) _ _ (by simp only [push_cast, Nat.reduceBEq, Nat.reduceLeDiff]) (by omega) ⟨q + 1, by omega, rfl, itW_at _ _ _ _ (Array.getElem?_eq_some_iff.1 hit4).1, ?_, hb4.trans (itW_below _ _ _ (Nat.le_refl _))⟩
      simp only [push_cast, Nat.reduceBEq, Nat.reduceLeDiff, take_any chars q hc2]
    · simp only [push_cast, Nat.reduceBEq, Nat.reduceLeDiff, Nat.reduceAdd, next_end w4 _ chars q _ hit4 hc2, h7, h0]
      rw [take_all chars q (by omega), any_rune hc x _ (fun hx => by rw [hlr.1 hx]) hlr.2]
      have hPx : (toL chars).contains x = P x := by rw [← hP]
      rw [hPx]
      have hbb := hb.trans ((hb3.mono hs2).trans (hb4.mono (by omega)))
      refine ⟨fun hf => hR _ _ ⟨?_, hbb⟩, fun hf => ?_⟩
      · simp only [Bool.not_eq_true'] at hf
        rw [hdw, hax, List.reverse_append, List.reverse_singleton, List.singleton_append, List.dropWhile_cons_of_neg (by rw [hf]; decide), List.reverse_cons, List.reverse_reverse, ← hax, mkS_toL]
      · simp only [Bool.not_eq_false'] at hf
        have h128 : x.toNat < 128 := by
          rw [← hPx] at hf
          exact hc _ (List.contains_iff_mem.1 hf)
        rw [hlr.1 h128]
        have hw : IntKind.i64.wrap ((s.size : Int) - ((1 : Nat) : Int)) = (s.size : Int) - 1 := w64 (by omega) (by omega)
        simp only [hw]
        have hx2 : toL (s.extract 0 ((s.size : Int) - 1).toNat) = a := by
          rw [toL_extract, show ((s.size : Int) - 1).toNat = a.length from by omega, hax]; simp
        have hx3 : (s.extract 0 ((s.size : Int) - 1).toNat).size = a.length := by rw [← toL_len, hx2]
        refine ⟨⟨by omega, by omega⟩, hT (s.extract 0 ((s.size : Int) - 1).toNat).size _ _ (by simp only [push_cast, Nat.reduceBEq, Nat.reduceLeDiff]) (by omega) ⟨_, by omega, rfl, ?_, ?_, hbb⟩⟩
        · simp only [push_cast, Nat.reduceBEq, Nat.reduceLeDiff]
        · rw [hdw, hx2, hax, List.reverse_append, List.reverse_singleton, List.singleton_append, List.dropWhile_cons_of_pos hf]
  · simp only [decide_eq_false_iff_not] at hc1
    refine hR _ _ ⟨?_, hb⟩
    have : toL s = [] := List.length_eq_zero_iff.1 (by rw [toL_len]; omega)
    rw [hdw, ← mkS_toL s, this]; rfl
end Go.Proofs.YtciepffocobgpaaGreatDoor
namespace Go.Proofs.YtciepffocobgpaaGreatDoor
open Go Go.Sx Go.RowKit
set_option linter.unusedSimpArgs false

theorem dw_nil {P : UInt8 → Bool} : ∀ {l : Bytes}, l.dropWhile P = [] ↔ ∀ x ∈ l, P x = true
  | [] => by simp
  | y :: m => by
    by_cases hy : P y = true
    · rw [List.dropWhile_cons_of_pos hy, dw_nil]; simp [hy]
    · rw [List.dropWhile_cons_of_neg hy]; simp [hy]
theorem cut_all (P : UInt8 → Bool) (l : Bytes) : (((l.dropWhile P).reverse.dropWhile P).reverse = []) ↔ l.all P = true := by
  constructor
  · intro h
    rw [List.reverse_eq_nil_iff] at h
    rw [List.all_eq_true]
    have h1 : ∀ x ∈ (l.dropWhile P).reverse, P x = true := by
      intro x hx
      by_cases hp : P x = true
      · exact hp
      · exfalso
        have : x ∈ (l.dropWhile P).reverse.dropWhile P := by
          clear h
          generalize (l.dropWhile P).reverse = m at hx
          induction m with
          | nil => simp at hx
          | cons y m ih =>
            by_cases hy : P y = true
            · rw [List.dropWhile_cons_of_pos hy]
              rcases List.mem_cons.1 hx with rfl | hx
              · exact absurd hy hp
              · exact ih hx
            · rw [List.dropWhile_cons_of_neg hy]; exact hx
        rw [h] at this; simp at this
    have h2 : l.dropWhile P = [] := by
      rcases hd : l.dropWhile P with _ | ⟨x, r⟩
      · rfl
      · exfalso
        have hx := h1 x (by rw [hd]; simp)
        have := List.head_dropWhile_not P (l := l) (by rw [hd]; simp)
        simp only [hd, List.head_cons] at this
        rw [hx] at this; cases this
    intro x hx
    exact dw_nil.1 h2 x hx
  · intro h
    have : l.dropWhile P = [] := dw_nil.2 (List.all_eq_true.1 h)
    rw [this]; rfl
theorem empty_iff (s : ByteArray) : s = ⟨#[]⟩ ↔ toL s = [] := ⟨fun h => by rw [h]; rfl, fun h => by rw [← mkS_toL s, h]; rfl⟩
theorem mkS_nil (l : Bytes) : mkS l = ⟨#[]⟩ ↔ l = [] := by rw [empty_iff, toL_mkS]
theorem of_ (s chars : ByteArray) (most : Int) (hc : ascii (toL chars)) (hs : s.size ≤ 9223372036854775807) (hcs : chars.size ≤ 1000) (w : World) (hG : G w) :
    Calls Tryz.prog 63 #[.string s, .string chars, .int .i64 most] w fun e w' => e = .returned (.bool (ofB (toL chars) most (toL s))) ∧ Below w.heap.size w w' := by
  refine calls_X Tryz.func63 rfl Tryz.ntmps63 Tryz.results63 rfl rfl (by kernel_rfl) fun R hR => ?_
  simp only [push_cast, Nat.reduceBEq, Nat.reduceLeDiff, Nat.reduceAdd]
  have e1 : decide (s ≠ ⟨#[]⟩) = !(toL s).isEmpty := by
    rw [Bool.eq_iff_iff, decide_eq_true_iff, ne_eq, empty_iff]; cases toL s <;> simp
  rw [e1, ← toL_len s]
  have e2 : ofB (toL chars) most (toL s) = ((!(toL s).isEmpty && decide (((toL s).length : Int) ≤ most)) && (toL s).all fun c => (toL chars).contains c) := rfl
  generalize (!(toL s).isEmpty && decide (((toL s).length : Int) ≤ most)) = b at e2
  cases b with
  | false =>
    simp only [push_cast, Nat.reduceBEq, Nat.reduceLeDiff, Nat.reduceAdd, gv, cond_true, cond_false]
    exact hR _ _ ⟨by rw [e2]; rfl, Below.refl _ _⟩
  | true =>
    simp only [push_cast]
    refine (cutLeft s chars hc hs hcs w).mono ?_
    rintro e w2 ⟨rfl, hb2⟩
    simp only [push_cast, Nat.reduceBEq, Nat.reduceLeDiff, Nat.reduceAdd, gv, cond_true, cond_false]
    refine (cutRight _ chars hc (by rw [size_mkS]; have := (List.dropWhile_sublist (fun c => (toL chars).contains c) (l := toL s)).length_le; rw [toL_len] at this; omega) hcs w2 (hG.step hb2 hG.size)).mono ?_
    rintro e w3 ⟨rfl, hb3⟩
    simp only [push_cast, Nat.reduceBEq, Nat.reduceLeDiff, Nat.reduceAdd, gv, cond_true, cond_false]
    refine hR _ _ ⟨?_, hb2.trans (hb3.mono hb2.size)⟩
    rw [e2, toL_mkS]
    simp only [mkS_nil, cut_all, Bool.true_and, decide_eq_true_eq, Bool.decide_eq_true]
end Go.Proofs.YtciepffocobgpaaGreatDoor
namespace Go.Proofs.YtciepffocobgpaaGreatDoor
open Go Go.Sx Go.RowKit
set_option linter.unusedSimpArgs false
/-- A slice of bytes. -/
def BytesAt (w : World) (v : Value) (l : Bytes) : Prop :=
  (∃ A c, v = .slice A 0 c ∧ l = []) ∨ ∃ b o c, v = .slice (some ⟨b, o, none⟩) l.length c ∧ b < w.heap.size ∧ ∀ j x, l[j]? = some x → w.cell? ⟨b, o + j, none⟩ = some (.int .u8 x.toNat)
theorem bytesAt_below {w w' : World} {v : Value} {l : Bytes} (h : BytesAt w v l) (hb : Below w.heap.size w w') : BytesAt w' v l := by
  rcases h with h | ⟨b, o, c, h1, h2, h3⟩
  · exact .inl h
  · exact .inr ⟨b, o, c, h1, Nat.lt_of_lt_of_le h2 hb.size, fun j p hj => (hb.cell (p := ⟨b, _, none⟩) h2).trans (h3 j p hj)⟩
theorem bytesAt_shape {w : World} {v : Value} {l : Bytes} (h : BytesAt w v l) : ∃ A c, v = .slice A l.length c ∧ (∀ j p, l[j]? = some p → ∃ b o, A = some ⟨b, o, none⟩ ∧ b < w.heap.size ∧ w.cell? ⟨b, o + j, none⟩ = some (.int .u8 p.toNat)) := by
  rcases h with ⟨A, c, h1, h2⟩ | ⟨b, o, c, h1, h2, h3⟩
  · subst h2
    exact ⟨A, c, h1, fun j p hj => by simp at hj⟩
  · exact ⟨_, c, h1, fun j p hj => ⟨b, o, rfl, h2, h3 j p hj⟩⟩
theorem conv_bytes (s : ByteArray) (w : World) : ∃ v w', Sem.run Tryz.prog (convert 9 22 (.string s)) w = .ok v w' ∧ (BytesAt w' v (toL s) ∧ Below w.heap.size w w' ∧ ∃ c, v = .slice (some ⟨w.heap.size, 0, none⟩) s.size c) := by
  refine ⟨_, _, Lib.run_convert_string_bytes w 9 22 5 s Tryz.underlying9 Tryz.underlying22 Tryz.underlying5, .inr ⟨w.heap.size, 0, _, by rw [toL_len], by rw [Lib.bytesWorld_size]; omega, fun j x hj => ?_⟩, ⟨rfl, rfl, rfl, by rw [Lib.bytesWorld_size]; omega, fun k hk => Lib.bytesWorld_at_old w 5 s k hk⟩, _, rfl⟩
  have hlt := (List.getElem?_eq_some_iff.1 hj).1
  rw [toL_len] at hlt
  rw [Nat.zero_add, Lib.bytesWorld_cell w 5 s j hlt, List.getD, show s.data.toList[j]? = some x from hj]; rfl
theorem shown1 (c : UInt8) (w : World) : Calls Tryz.prog 96 #[.int .u8 c.toNat] w fun e w' => e = .returned (.bool (!(decide (32 ≤ c.toNat) && decide (c.toNat ≤ 126)))) ∧ w = w' := by
  refine calls_X Tryz.func96 rfl Tryz.ntmps96 Tryz.results96 rfl rfl (by kernel_rfl) fun R hR => ?_
  simp only [push_cast, Nat.reduceBEq, Nat.reduceLeDiff, Nat.reduceAdd]
  refine hR _ _ ⟨?_, rfl⟩
  congr 2
  rw [Bool.eq_iff_iff]; simp; omega
theorem index119 (v : Value) (l : Bytes) (f : FuncId) (hf : hasBody Tryz.prog f = true) (p : UInt8 → Bool) (h : ∀ (c : UInt8) w, Calls Tryz.prog f #[.int .u8 c.toNat] w fun e w' => e = .returned (.bool (p c)) ∧ w = w') (w : World) (hv : BytesAt w v l) (hl : l.length ≤ 9223372036854775807) :
    Calls Tryz.prog 119 #[v, .func (.func f) #[] #[]] w fun e w' => (∃ i : Int, e = .returned (.int .i64 i) ∧ decide (0 ≤ i) = l.any p) ∧ w = w' := by
  obtain ⟨A, c, rfl, hcells⟩ := bytesAt_shape hv
  refine calls_X Tryz.func119 rfl Tryz.ntmps119 Tryz.results119 rfl rfl (by kernel_rfl) fun R hR => ?_
  simp only [push_cast, Nat.reduceBEq, Nat.reduceLeDiff, Nat.reduceAdd]
  refine law_loop [(4, 5), (8, 18)] (fun n h w' => ∃ k : Nat, k ≤ l.length ∧ n = l.length - k ∧ h 8 = .int .i64 k ∧ (∀ x ∈ l.take k, p x = false) ∧ w = w') l.length ⟨0, by omega, by omega, rfl, by simp, rfl⟩ ?_
  rintro n h' w' ⟨k, hk, hn, h8, hall, rfl⟩ T hT
  simp only [push_cast, Nat.reduceBEq, Nat.reduceLeDiff, Nat.reduceAdd, h8]
  refine ⟨fun hc => ?_, fun hc => ?_⟩
  · simp only [decide_eq_true_eq, Int.ofNat_lt] at hc
    have hx : l[k]? = some l[k] := List.getElem?_eq_getElem hc
    have htk : l.take (k + 1) = l.take k ++ [l[k]] := List.take_succ_eq_append_getElem hc
    have hmem : l[k] ∈ l := List.getElem_mem hc
    generalize l[k] = x at hx htk hmem
    obtain ⟨b, o, rfl, hb1, hc1⟩ := hcells k x hx
    refine ⟨⟨by omega, by omega⟩, ?_⟩
    simp only [push_cast, Nat.reduceBEq, Nat.reduceLeDiff, Nat.reduceAdd, h8, Nat.mul_one, hc1, hf]
    refine (h x w).mono ?_
    rintro e w' ⟨rfl, rfl⟩
    simp only [push_cast, Nat.reduceBEq, Nat.reduceLeDiff, Nat.reduceAdd, h8]
    refine ⟨fun hp => hR _ _ ⟨⟨_, rfl, ?_⟩, rfl⟩, fun hp => hT (l.length - (k + 1)) _ _ (by simp only [push_cast, Nat.reduceBEq, Nat.reduceLeDiff]) (by omega) ⟨k + 1, by omega, rfl, ?_, ?_, rfl⟩⟩
    · rw [show decide ((0 : Int) ≤ k) = true from by simp, eq_comm, List.any_eq_true]
      exact ⟨x, hmem, hp⟩
    · simp only [push_cast, Nat.reduceBEq, Nat.reduceLeDiff]; rw [w64 (by omega) (by omega)]
    · rw [htk]
      intro y hy
      rcases List.mem_append.1 hy with hy | hy
      · exact hall y hy
      · simp at hy; subst hy; exact hp
  · simp only [decide_eq_false_iff_not, Int.ofNat_lt, Nat.not_lt] at hc
    refine hR _ _ ⟨⟨_, rfl, ?_⟩, rfl⟩
    rw [List.take_of_length_le hc] at hall
    rw [show decide ((0 : Int) ≤ -1) = false from rfl, eq_comm, List.any_eq_false]
    intro x hx
    rw [hall x hx]; decide
theorem contains95 (v : Value) (l : Bytes) (f : FuncId) (hf : hasBody Tryz.prog f = true) (p : UInt8 → Bool) (h : ∀ (c : UInt8) w, Calls Tryz.prog f #[.int .u8 c.toNat] w fun e w' => e = .returned (.bool (p c)) ∧ w = w') (w : World) (hv : BytesAt w v l) (hl : l.length ≤ 9223372036854775807) :
    Calls Tryz.prog 95 #[v, .func (.func f) #[] #[]] w fun e w' => e = .returned (.bool (l.any p)) ∧ w = w' := by
  refine calls_X Tryz.func95 rfl Tryz.ntmps95 Tryz.results95 rfl rfl (by kernel_rfl) fun R hR => ?_
  simp only [push_cast, Nat.reduceBEq, Nat.reduceLeDiff, Nat.reduceAdd]
  refine (index119 v l f hf p h w hv hl).mono ?_
  rintro e w' ⟨⟨i, rfl, hi⟩, rfl⟩
  simp only [push_cast, Nat.reduceBEq, Nat.reduceLeDiff, Nat.reduceAdd, hi]
  exact hR _ _ ⟨rfl, rfl⟩
theorem shown_ (s : ByteArray) (hs : s.size ≤ 9223372036854775807) (w : World) : Calls Tryz.prog 64 #[.string s] w fun e w' => e = .returned (.bool (shownB (toL s))) ∧ Below w.heap.size w w' := by
  refine calls_X Tryz.func64 rfl Tryz.ntmps64 Tryz.results64 rfl rfl (by kernel_rfl) fun R hR => ?_
  simp only [push_cast, Nat.reduceBEq, Nat.reduceLeDiff, Nat.reduceAdd]
  refine getR_of (conv_bytes s w) ?_
  rintro v w2 ⟨hv, hb2, c, rfl⟩
  simp only [push_cast, Nat.reduceBEq, Nat.reduceLeDiff, Nat.reduceAdd]
  refine (contains95 _ (toL s) 96 (by kernel_rfl) _ shown1 w2 hv (by rw [toL_len]; exact hs)).mono ?_
  rintro e w' ⟨rfl, rfl⟩
  simp only [push_cast, Nat.reduceBEq, Nat.reduceLeDiff, Nat.reduceAdd]
  refine hR _ _ ⟨?_, hb2⟩
  congr 2
  unfold shownB
  rw [Bool.eq_iff_iff]
  simp
end Go.Proofs.YtciepffocobgpaaGreatDoor
namespace Go.Proofs.YtciepffocobgpaaGreatDoor
open Go Go.Sx Go.RowKit
set_option linter.unusedSimpArgs false
theorem find1 (x : Pr) (b : Nat) (s : ByteArray) (w : World) (hb : b < w.heap.size) (hc : w.cell? ⟨b, 0, none⟩ = some (.string s)) :
    Calls Tryz.prog 60 #[.agg #[.string (mkS x.1), .string (mkS x.2)], .pointer (some ⟨b, 0, none⟩)] w fun e w' => e = .returned (.bool (x.1 == toL s)) ∧ Below w.heap.size w w' := by
  refine calls_X Tryz.func60 rfl Tryz.ntmps60 Tryz.results60 rfl rfl (by kernel_rfl) fun R hR => ?_
  simp only [push_cast, Nat.reduceBEq, Nat.reduceLeDiff, Nat.reduceAdd, al_cell_old _ _ (⟨b, 0, none⟩ : Addr) hb, hc, mkS_eq]
  exact hR _ _ ⟨by congr 2; rw [Bool.eq_iff_iff]; simp, al_below _ _⟩
theorem index59 (v : Value) (ps : List Pr) (b : Nat) (s : ByteArray) (w : World) (hb : b < w.heap.size) (hc : w.cell? ⟨b, 0, none⟩ = some (.string s)) (hv : PairsAt w v ps) (hl : ps.length ≤ 140737488355328) :
    Calls Tryz.prog 59 #[v, .func (.func 60) #[] #[.pointer (some ⟨b, 0, none⟩)]] w fun e w' => (∃ i : Int, e = .returned (.int .i64 i) ∧ ((i = -1 ∧ getP ps (toL s) = none) ∨ ∃ (k : Nat) (p : Pr), i = k ∧ ps[k]? = some p ∧ getP ps (toL s) = some p.2)) ∧ Below w.heap.size w w' := by
  obtain ⟨A, c, rfl, hcells⟩ := pairsAt_shape hv
  refine calls_X Tryz.func59 rfl Tryz.ntmps59 Tryz.results59 rfl rfl (by kernel_rfl) fun R hR => ?_
  simp only [push_cast, Nat.reduceBEq, Nat.reduceLeDiff, Nat.reduceAdd]
  refine law_loop [(4, 5), (8, 18)] (fun n h w' => ∃ k : Nat, k ≤ ps.length ∧ n = ps.length - k ∧ h 8 = .int .i64 k ∧ getP ps (toL s) = getP (ps.drop k) (toL s) ∧ Below w.heap.size w w') ps.length ⟨0, by omega, by omega, rfl, rfl, Below.refl _ _⟩ ?_
  rintro n h w2 ⟨k, hk, hn, h8, hg, hbw⟩ T hT
  simp only [push_cast, Nat.reduceBEq, Nat.reduceLeDiff, Nat.reduceAdd, h8]
  refine ⟨fun hcc => ?_, fun hcc => ?_⟩
  · simp only [decide_eq_true_eq, Int.ofNat_lt] at hcc
    have hx : ps[k]? = some ps[k] := List.getElem?_eq_getElem hcc
    have hd := List.drop_eq_getElem_cons hcc
    generalize ps[k] = p at hx hd
    obtain ⟨b1, o, rfl, hb1, c1, c2⟩ := hcells k _ hx
    rw [← hbw.cell (p := ⟨b1, _, none⟩) hb1] at c1 c2
    have hs2 := hbw.size
    simp only [push_cast, Nat.reduceBEq, Nat.reduceLeDiff, Nat.reduceAdd, h8, c1, c2]
    refine ⟨⟨by omega, by omega⟩, ?_⟩
    refine (find1 p b s w2 (by omega) ((hbw.cell (p := ⟨b, 0, none⟩) hb).trans hc)).mono ?_
    rintro e w3 ⟨rfl, hb3⟩
    have hbw3 := hbw.trans (hb3.mono hs2)
    simp only [push_cast, Nat.reduceBEq, Nat.reduceLeDiff, Nat.reduceAdd, h8]
    refine ⟨fun hp => hR _ _ ⟨⟨_, rfl, .inr ⟨k, p, rfl, hx, ?_⟩⟩, hbw3⟩, fun hp => hT (ps.length - (k + 1)) _ _ (by simp only [push_cast, Nat.reduceBEq, Nat.reduceLeDiff]) (by omega) ⟨k + 1, by omega, rfl, ?_, ?_, hbw3⟩⟩
    · rw [hg, hd, getP, List.find?_cons_of_pos (p := fun q : Pr => q.1 == toL s) hp]; rfl
    · simp only [push_cast, Nat.reduceBEq, Nat.reduceLeDiff]; rw [w64 (by omega) (by omega)]
    · rw [hg, hd, getP, List.find?_cons_of_neg (p := fun q : Pr => q.1 == toL s) (by simp only [hp]; decide)]; rfl
  · simp only [decide_eq_false_iff_not, Int.ofNat_lt, Nat.not_lt] at hcc
    refine hR _ _ ⟨⟨_, rfl, .inl ⟨rfl, ?_⟩⟩, hbw⟩
    rw [hg, List.drop_eq_nil_of_le hcc]; rfl
theorem find_ (v : Value) (ps : List Pr) (s : ByteArray) (w : World) (hv : PairsAt w v ps) (hl : ps.length ≤ 140737488355328) :
    Calls Tryz.prog 29 #[v, .string s] w fun e w' => e = .returned (gvP (getP ps (toL s))) ∧ Below w.heap.size w w' := by
  obtain ⟨A, c, rfl, hcells⟩ := pairsAt_shape hv
  refine calls_X Tryz.func29 rfl Tryz.ntmps29 Tryz.results29 rfl rfl (by kernel_rfl) fun R hR => ?_
  simp only [push_cast, Nat.reduceBEq, Nat.reduceLeDiff, Nat.reduceAdd]
  refine (index59 _ ps w.heap.size s (al w [([.string s], 9)]) (by rw [al_size]; simp) (al_cell0 ..) (pairsAt_below hv (al_below _ _)) hl).mono ?_
  rintro e w2 ⟨⟨i, rfl, hi⟩, hb⟩
  have hbw : Below w.heap.size w w2 := (al_below w _).trans (hb.mono (by rw [al_size]; omega))
  simp only [push_cast, Nat.reduceBEq, Nat.reduceLeDiff, Nat.reduceAdd]
  rcases hi with ⟨rfl, hg⟩ | ⟨k, p, rfl, hp, hg⟩
  · simp only [push_cast, Int.reduceNeg, Int.reduceLT, decide_true]
    exact hR _ _ ⟨by rw [hg]; rfl, hbw⟩
  · obtain ⟨b1, o, rfl, hb1, c1, c2⟩ := hcells k _ hp
    rw [← hbw.cell (p := ⟨b1, _, none⟩) hb1] at c1 c2
    have hk := (List.getElem?_eq_some_iff.1 hp).1
    simp only [push_cast, Nat.reduceBEq, Nat.reduceLeDiff, Nat.reduceAdd, c1, c2, show decide ((k : Int) < 0) = false from by simp]
    refine ⟨⟨by omega, by omega⟩, hR _ _ ⟨by rw [hg]; rfl, hbw⟩⟩
end Go.Proofs.YtciepffocobgpaaGreatDoor
namespace Go.Proofs.YtciepffocobgpaaGreatDoor
open Go Go.Sx Go.RowKit
set_option linter.unusedSimpArgs false
theorem ascii_of (l : Bytes) (h : l.all (fun c => decide (c.toNat < 128)) = true) : ascii l := fun c hc => by simpa using List.all_eq_true.1 h c hc
theorem ofB_len {chars l : Bytes} {most : Int} (h : ofB chars most l = true) : (l.length : Int) ≤ most ∧ (∀ c ∈ l, c ∈ chars) ∧ l ≠ [] := by
  simp only [ofB, Bool.and_eq_true, decide_eq_true_eq, List.all_eq_true, Bool.not_eq_true', List.contains_iff_mem] at h
  refine ⟨h.1.2, h.2, fun he => ?_⟩
  rw [he] at h; simp at h
theorem of_C (s : ByteArray) (chars : Bytes) (most : Int) (hc : chars.all (fun c => decide (c.toNat < 128)) = true) (hcs : chars.length ≤ 1000) (hs : s.size ≤ 9223372036854775807) (w : World) (hG : G w) :
    Calls Tryz.prog 63 #[.string s, .string (mkS chars), .int .i64 most] w fun e w' => e = .returned (.bool (ofB chars most (toL s))) ∧ Below w.heap.size w w' := by
  have := of_ s (mkS chars) most (by rw [toL_mkS]; exact ascii_of _ hc) hs (by rw [size_mkS]; exact hcs) w hG
  rw [toL_mkS] at this
  exact this
def hdV (p : Pr) : Value := .agg #[.string (mkS p.1), .string (mkS p.2)]
theorem bld38 (a b : ByteArray) (w : World) : Sem.run Tryz.prog (Instr.build 38 #[(0, .string a), (1, .string b)]) w = .ok (.agg #[.string a, .string b]) w := by kernel_rfl
def endV {α : Type} (f : α → Value) : Except Int α → Ending
  | .ok v => .returned (f v)
  | .error e => die e
def endO (o : Option Pr) : Ending := match o with | some p => .returned (hdV p) | none => die 31
theorem must_t (e : Int) (w : World) : Calls Tryz.prog 48 #[.bool true, .int .i64 e] w fun r w' => r = .returned (.tuple #[]) ∧ w = w' := must_ true e w
theorem must_f (e : Int) (w : World) : Calls Tryz.prog 48 #[.bool false, .int .i64 e] w fun r w' => r = .panicked [{ v := .iface 83 (.agg #[.int .i64 e]), recovered := false }] ∧ w = w' := must_ false e w
theorem header_ (s : ByteArray) (hs : s.size < 4294967281) (w : World) (hG : G w) :
    Calls Tryz.prog 88 #[.string s] w fun e w' => e = endO (hdrS (toL s)) ∧ Below w.heap.size w w' := by
  obtain ⟨m, hm⟩ := hG.max
  have hG9 := hG.size
  refine calls_X Tryz.func88 rfl Tryz.ntmps88 Tryz.results88 rfl rfl (by kernel_rfl) fun R hR => ?_
  simp only [push_cast, Nat.reduceBEq, Nat.reduceLeDiff, Nat.reduceAdd]
  refine (Tryz.strings_Cut s _ m _ hs (by rw [al_cell_old _ _ _ (by show 0 < _; omega)]; exact hm)).mono ?_
  rintro e w1 ⟨rfl, n, hw1⟩
  have hb1 : Below (w.heap.size + 1) (al w [([Value.string ⟨#[]⟩, Value.string ⟨#[]⟩], 38)]) w1 := by rw [hw1]; exact (drewN_below _ n).mono (by simp [al_size])
  clear hw1
  have hb : Below w.heap.size w w1 := (al_below _ _).trans (hb1.mono (by omega))
  have hs1 : w.heap.size + 1 ≤ w1.heap.size := by have := hb1.size; simpa [al_size] using this
  obtain ⟨c0, f0⟩ := new_cell hb1 (by omega) 0
  obtain ⟨c1, f1⟩ := new_cell hb1 (by omega) 1
  simp only [List.getElem?_cons_zero, List.getElem?_cons_succ] at c0 c1
  rw [show (⟨#[58]⟩ : ByteArray).data.toList = [58] from rfl, show s.data.toList = toL s from rfl, cut_one]
  have hG1 := hG.step hb hG9
  cases hc : cut1 58 (toL s) with
  | none =>
    simp only [push_cast, Nat.reduceBEq, Nat.reduceLeDiff, Nat.reduceAdd]
    refine (must_f _ _).mono ?_
    rintro e w1 ⟨rfl, rfl⟩
    simp only [push_cast, Nat.reduceBEq, Nat.reduceLeDiff, Nat.reduceAdd]
    exact hR _ _ ⟨by rw [hdrS, hc]; rfl, hb⟩
  | some ab =>
    obtain ⟨a, b⟩ := ab
    have hab := cut1_len hc
    rw [toL_len] at hab
    simp only [push_cast, Nat.reduceBEq, Nat.reduceLeDiff, Nat.reduceAdd]
    refine (of_C (mkS a) nameC 40 (by decide) (by decide) (by rw [size_mkS]; omega) w1 hG1).mono ?_
    rintro e w2 ⟨rfl, hb2⟩
    rw [toL_mkS]
    cases ho : ofB nameC 40 a with
    | false =>
      simp only [push_cast, Nat.reduceBEq, Nat.reduceLeDiff, Nat.reduceAdd]
      refine (must_f _ _).mono ?_
      rintro e w1 ⟨rfl, rfl⟩
      simp only [push_cast, Nat.reduceBEq, Nat.reduceLeDiff, Nat.reduceAdd]
      exact hR _ _ ⟨by rw [hdrS, hc]; simp only [ho, Bool.false_eq_true, if_false]; rfl, hb.trans (hb2.mono hb.size)⟩
    | true =>
      simp only [push_cast, Nat.reduceBEq, Nat.reduceLeDiff, Nat.reduceAdd]
      refine (shown_ (mkS b) (by rw [size_mkS]; omega) w2).mono ?_
      rintro e w3 ⟨rfl, hb3⟩
      rw [toL_mkS]
      have hb13 : Below w1.heap.size w1 w3 := hb2.trans (hb3.mono hb2.size)
      cases hsh : shownB b with
      | false =>
        simp only [push_cast, Nat.reduceBEq, Nat.reduceLeDiff, Nat.reduceAdd]
        refine (must_f _ _).mono ?_
        rintro e w1 ⟨rfl, rfl⟩
        simp only [push_cast, Nat.reduceBEq, Nat.reduceLeDiff, Nat.reduceAdd]
        exact hR _ _ ⟨by rw [hdrS, hc]; simp only [ho, hsh, Bool.false_eq_true, if_false, if_true]; rfl, hb.trans (hb13.mono hb.size)⟩
      | true =>
        simp only [push_cast, Nat.reduceBEq, Nat.reduceLeDiff, Nat.reduceAdd]
        refine (must_t _ _).mono ?_
        rintro e w4 ⟨rfl, rfl⟩
        simp only [push_cast, Nat.reduceBEq, Nat.reduceLeDiff, Nat.reduceAdd]
        have hlow : ∀ (j : Nat) (b : UInt8), (mkS a).data.toList[j]? = some b → b.toNat < 128 := by
          intro j x hx
          have hm : x ∈ a := by
            have := List.mem_of_getElem? hx
            rwa [show (mkS a).data.toList = a from toL_mkS a] at this
          exact ascii_of nameC (by decide) x ((ofB_len ho).2.1 x hm)
        refine (Tryz.strings_ToLower_ascii (mkS a) w3 (by rw [size_mkS]; omega) hlow).mono ?_
        rintro e w4 ⟨rfl, hb4⟩
        simp only [push_cast, Nat.reduceBEq, Nat.reduceLeDiff, Nat.reduceAdd]
        refine (Tryz.strings_Trim_one (mkS b) 32 (by decide) w4 (by rw [size_mkS]; omega)).mono ?_
        rintro e w5 ⟨rfl, hw5⟩
        have hb5 : Below w4.heap.size w4 w5 := by
          rcases hw5 with rfl | rfl
          · exact Below.refl _ _
          · exact (Below.refl _ _).drew
        clear hw5
        have hb15 : Below w1.heap.size w1 w5 := hb13.trans ((hb4.mono hb13.size).trans (hb5.mono (Nat.le_trans hb13.size hb4.size)))
        replace c0 := (hb15.cell (p := ⟨w.heap.size, 0, none⟩) hs1).trans c0
        replace c1 := (hb15.cell (p := ⟨w.heap.size, 1, none⟩) hs1).trans c1
        replace f0 := (hb15.frozen (p := ⟨w.heap.size, 0, none⟩) hs1).trans f0
        replace f1 := (hb15.frozen (p := ⟨w.heap.size, 1, none⟩) hs1).trans f1
        simp only [push_cast, Nat.reduceBEq, Nat.reduceLeDiff, Nat.reduceAdd, bld38, c0, c1, f0, f1]
        refine hR _ _ ⟨?_, ((hb.trans (hb15.mono hb.size)).setCell (p := ⟨w.heap.size, 0, none⟩) (Nat.le_refl _) _).setCell (p := ⟨w.heap.size, 1, none⟩) (Nat.le_refl _) _⟩
        rw [hdrS, hc]
        simp only [ho, hsh, if_true]; rfl
end Go.Proofs.YtciepffocobgpaaGreatDoor
namespace Go.Proofs.YtciepffocobgpaaGreatDoor
open Go Go.Sx Go.RowKit
set_option linter.unusedSimpArgs false
set_option linter.unusedVariables false
def endI (o : Except Int Int) : Ending := match o with | .ok n => .returned (.int .i64 n) | .error e => die e
theorem bytesW_below (w : World) (t : ByteArray) : Below w.heap.size w (Lib.bytesWorld w 5 t) := ⟨rfl, rfl, rfl, by rw [Lib.bytesWorld_size]; omega, fun k hk => Lib.bytesWorld_at_old w 5 t k hk⟩
def short (ps : List Pr) : Prop := ∀ p ∈ ps, p.1.length ≤ 1000000 ∧ p.2.length ≤ 1000000
theorem getP_mem {ps : List Pr} {n x : Bytes} (h : getP ps n = some x) : ∃ p ∈ ps, p.2 = x := by
  unfold getP at h
  obtain ⟨p, hp, rfl⟩ := Option.map_eq_some_iff.1 h
  exact ⟨p, List.mem_of_find?_eq_some hp, rfl⟩
theorem count_ (v : Value) (ps : List Pr) (most : Int) (w : World) (hv : PairsAt w v ps) (hl : ps.length ≤ 140737488355328) (hsh : short ps) (hG : G w) :
    Calls Tryz.prog 89 #[v, .int .i64 most] w fun e w' => e = endI (countS ps most) ∧ Below w.heap.size w w' := by
  refine calls_X Tryz.func89 rfl Tryz.ntmps89 Tryz.results89 rfl rfl (by kernel_rfl) fun R hR => ?_
  simp only [push_cast, Nat.reduceBEq, Nat.reduceLeDiff, Nat.reduceAdd]
  refine (find_ v ps (mkS clen) w hv hl).mono ?_
  rintro e w1 ⟨rfl, hb1⟩
  rw [toL_mkS]
  have hG1 := hG.step hb1 hG.size
  cases hg : getP ps clen with
  | none =>
    simp only [push_cast, Nat.reduceBEq, Nat.reduceLeDiff, Nat.reduceAdd, gvP]
    exact hR _ _ ⟨by rw [countS, hg]; rfl, hb1⟩
  | some x =>
    obtain ⟨p, hpm, rfl⟩ := getP_mem hg
    have hx := (hsh p hpm).2
    generalize p.2 = x at hg hx
    simp only [push_cast, Nat.reduceBEq, Nat.reduceLeDiff, Nat.reduceAdd, gvP]
    refine (of_C (mkS x) digC 6 (by decide) (by decide) (by rw [size_mkS]; omega) w1 hG1).mono ?_
    rintro e w2 ⟨rfl, hb2⟩
    rw [toL_mkS]
    have hb02 := hb1.trans (hb2.mono hb1.size)
    cases ho : ofB digC 6 x with
    | false =>
      simp only [push_cast, Nat.reduceBEq, Nat.reduceLeDiff, Nat.reduceAdd]
      refine (must_f _ _).mono ?_
      rintro e w3 ⟨rfl, rfl⟩
      simp only [push_cast, Nat.reduceBEq, Nat.reduceLeDiff, Nat.reduceAdd]
      exact hR _ _ ⟨by rw [countS, hg]; simp only [ho, Bool.false_eq_true, if_false]; rfl, hb02⟩
    | true =>
      obtain ⟨o1, o2, o3⟩ := ofB_len ho
      simp only [push_cast, Nat.reduceBEq, Nat.reduceLeDiff, Nat.reduceAdd]
      have hxp : 0 < x.length := List.length_pos_iff.2 o3
      refine ⟨fun _ => by rw [size_mkS]; omega, ?_⟩
      have hcond : (decide (mkS x = ⟨#[48]⟩) || decide (bt (mkS x) 0 ≠ 48)) = decide (x = [48] ∨ x.head? ≠ some 48) := by
        have hbt : bt (mkS x) 0 = (x[0].toNat : Int) := by
          have := bt_get (mkS x) 0 (by rw [toL_mkS]; exact hxp)
          simp only [toL_mkS] at this
          exact this
        rw [Bool.decide_or, hbt]
        simp only [mkS_eq]
        congr 1
        rw [Bool.eq_iff_iff, decide_eq_true_iff, decide_eq_true_iff]
        rcases x with _ | ⟨c, r⟩
        · simp at hxp
        · simp only [List.getElem_cons_zero, List.head?_cons, ne_eq, Option.some.injEq, show (48 : Int) = ((48 : UInt8).toNat : Int) from rfl, u8_eq]
      rw [hcond]
      by_cases hz : x = [48] ∨ x.head? ≠ some 48
      · rw [decide_eq_true hz]
        refine (must_t _ _).mono ?_
        rintro e w3 ⟨rfl, rfl⟩
        simp only [push_cast, Nat.reduceBEq, Nat.reduceLeDiff, Nat.reduceAdd]
        refine (Tryz.strconv_Atoi (mkS x) (decN x) (by rw [size_mkS]; omega) (by rw [show (mkS x).data.toList = x from toL_mkS x]; exact decN_atoi x o2 o3) w2).mono ?_
        rintro e w3 ⟨rfl, t, hw3⟩
        have hb3 : Below w.heap.size w w3 := hb02.trans (by rw [hw3]; exact (bytesW_below w2 t).mono hb02.size)
        clear hw3
        simp only [push_cast, Nat.reduceBEq, Nat.reduceLeDiff, Nat.reduceAdd]
        by_cases hm : (decN x : Int) ≤ most
        · rw [decide_eq_true hm]
          refine (must_t _ _).mono ?_
          rintro e w3 ⟨rfl, rfl⟩
          simp only [push_cast, Nat.reduceBEq, Nat.reduceLeDiff, Nat.reduceAdd]
          exact hR _ _ ⟨by rw [countS, hg]; simp only [ho, if_true, if_pos hz, if_pos hm]; rfl, hb3⟩
        · rw [decide_eq_false hm]
          refine (must_f _ _).mono ?_
          rintro e w3 ⟨rfl, rfl⟩
          simp only [push_cast, Nat.reduceBEq, Nat.reduceLeDiff, Nat.reduceAdd]
          exact hR _ _ ⟨by rw [countS, hg]; simp only [ho, if_true, if_pos hz, if_neg hm]; rfl, hb3⟩
      · rw [decide_eq_false hz]
        refine (must_f _ _).mono ?_
        rintro e w3 ⟨rfl, rfl⟩
        simp only [push_cast, Nat.reduceBEq, Nat.reduceLeDiff, Nat.reduceAdd]
        exact hR _ _ ⟨by rw [countS, hg]; simp only [ho, if_true, if_neg hz]; rfl, hb02⟩
theorem countS_ok {ps : List Pr} {most : Int} {e : Int} (h : countS ps most = .error e) : e = 31 ∨ e = 11 := by
  unfold countS at h
  repeat' (split at h)
  all_goals first | (cases h; done) | (cases h; simp)
/-- The body: a fresh row. -/
def BodyPost (o : Except Int Bytes) (e : Ending) (w w' : World) : Prop :=
  match o with
  | .ok l => ∃ v, e = .returned v ∧ BytesAt w' v l ∧ (∃ b c, v = .slice (some ⟨b, 0, none⟩) l.length c ∧ w.heap.size ≤ b)
  | .error er => e = die er
theorem body_ (v : Value) (ps : List Pr) (s : ByteArray) (most : Int) (w : World) (hv : PairsAt w v ps) (hl : ps.length ≤ 140737488355328) (hsh : short ps) (hs : s.size ≤ 9223372036854775807) (hG : G w) :
    Calls Tryz.prog 52 #[v, .string s, .int .i64 most] w fun e w' => BodyPost (bodyS ps (toL s) most) e w w' ∧ Below w.heap.size w w' := by
  refine calls_X Tryz.func52 rfl Tryz.ntmps52 Tryz.results52 rfl rfl (by kernel_rfl) fun R hR => ?_
  simp only [push_cast, Nat.reduceBEq, Nat.reduceLeDiff, Nat.reduceAdd]
  refine (find_ v ps (mkS tenc) w hv hl).mono ?_
  rintro e w1 ⟨rfl, hb1⟩
  rw [toL_mkS]
  have hG1 := hG.step hb1 hG.size
  cases hg : getP ps tenc with
  | some x =>
    simp only [push_cast, Nat.reduceBEq, Nat.reduceLeDiff, Nat.reduceAdd, gvP]
    refine (must_f _ _).mono ?_
    rintro e w3 ⟨rfl, rfl⟩
    simp only [push_cast, Nat.reduceBEq, Nat.reduceLeDiff, Nat.reduceAdd]
    exact hR _ _ ⟨by rw [bodyS, hg]; rfl, hb1⟩
  | none =>
    simp only [push_cast, Nat.reduceBEq, Nat.reduceLeDiff, Nat.reduceAdd, gvP]
    refine (must_t _ _).mono ?_
    rintro e w3 ⟨rfl, rfl⟩
    simp only [push_cast, Nat.reduceBEq, Nat.reduceLeDiff, Nat.reduceAdd]
    have hbs : bodyS ps (toL s) most = match countS ps most with
      | .error e => .error e
      | .ok n => if n = (toL s).length then .ok (toL s) else .error 10 := by rw [bodyS, hg]; rfl
    refine (count_ v ps most w1 (pairsAt_below hv hb1) hl hsh hG1).mono ?_
    rintro e w2 ⟨rfl, hb2⟩
    have hb02 := hb1.trans (hb2.mono hb1.size)
    cases hc : countS ps most with
    | error er =>
      rw [hc] at hbs
      simp only [push_cast, Nat.reduceBEq, Nat.reduceLeDiff, Nat.reduceAdd, endI, die]
      exact hR _ _ ⟨by rw [hbs]; rfl, hb02⟩
    | ok n =>
      rw [hc, toL_len] at hbs
      simp only [push_cast, Nat.reduceBEq, Nat.reduceLeDiff, Nat.reduceAdd, endI]
      by_cases hn : n = s.size
      · rw [decide_eq_true hn]
        refine (must_t _ _).mono ?_
        rintro e w3 ⟨rfl, rfl⟩
        simp only [push_cast, Nat.reduceBEq, Nat.reduceLeDiff, Nat.reduceAdd]
        refine getR_of (conv_bytes s w2) ?_
        rintro v w3 ⟨hv3, hb3, c, rfl⟩
        simp only [push_cast, Nat.reduceBEq, Nat.reduceLeDiff, Nat.reduceAdd]
        refine hR _ _ ⟨?_, hb02.trans (hb3.mono hb02.size)⟩
        rw [hbs]
        simp only [if_pos hn]
        exact ⟨_, rfl, hv3, _, c, by rw [toL_len], hb02.size⟩
      · rw [decide_eq_false hn]
        refine (must_f _ _).mono ?_
        rintro e w3 ⟨rfl, rfl⟩
        simp only [push_cast, Nat.reduceBEq, Nat.reduceLeDiff, Nat.reduceAdd]
        exact hR _ _ ⟨by rw [hbs]; simp only [if_neg hn]; rfl, hb02⟩
end Go.Proofs.YtciepffocobgpaaGreatDoor
namespace Go.Proofs.YtciepffocobgpaaGreatDoor
open Go Go.Sx Go.RowKit
set_option linter.unusedSimpArgs false
set_option linter.unusedVariables false
theorem info38 : (Tryz.prog.info? 38).map (fun i => (i.zero, i.size, i.bytes)) = some (some (.agg #[.string ⟨#[]⟩, .string ⟨#[]⟩]), 2, 32) := by kernel_rfl
theorem bsl25 (a b : ByteArray) (w : World) : Sem.run Tryz.prog (Instr.buildSlice 25 1 #[(0, .agg #[.string a, .string b])]) w = .ok (.slice (some ⟨w.heap.size, 0, none⟩) 1 1) (w.alloc (.cells #[.string a, .string b] 38)) := by kernel_rfl
theorem append25 (w : World) (B : Nat) (v : Value) (ps : List Pr) (p : Pr) (hown : w.ownsRow B 38 2 v ps.length (pairCells ps)) (hB : B ≤ w.heap.size) (hl : ps.length ≤ 1000000) :
    ∃ v' w', Sem.run Tryz.prog (Builtin.append_ #[25, 25] 25 #[v, .slice (some ⟨w.heap.size, 0, none⟩) 1 1]) (al w [([.string (mkS p.1), .string (mkS p.2)], 38)]) = .ok v' w' ∧
      (w'.ownsRow B 38 2 v' (ps ++ [p]).length (pairCells (ps ++ [p])) ∧ Below B w w') := by
  obtain ⟨i0, hi, hz0, hz1, hz2⟩ := info_parts info38
  have hnews : ∀ (j : Nat) (u : Value), [Value.string (mkS p.1), Value.string (mkS p.2)][j]? = some u → (al w [([Value.string (mkS p.1), Value.string (mkS p.2)], 38)]).cell? ((⟨w.heap.size, 0, none⟩ : Addr).add j) = some u := by
    intro j u hj
    rcases j with _ | _ | j
    · simp at hj; subst hj; exact al_cell0 ..
    · simp at hj; subst hj
      simp only [push_cast]
    · simp at hj
  obtain ⟨v', w', h1, h2, h3, _⟩ := run_append_own (P := Tryz.prog) (al w [([.string (mkS p.1), .string (mkS p.2)], 38)]) B 25 25 38 i0 (.agg #[.string ⟨#[]⟩, .string ⟨#[]⟩]) 2 32 Tryz.underlying25 hi hz0 hz1 hz2 rfl (by decide) v ps.length (pairCells ps) (own_below hown (al_below _ _)) ⟨w.heap.size, 0, none⟩ 1 1 [.string (mkS p.1), .string (mkS p.2)] rfl hnews (by simp; exact ⟨rfl, rfl⟩) (by unfold maxLen; omega) (by omega) (by rw [al_size]; omega)
  · refine ⟨v', w', h1, ?_, ?_⟩
    · rw [pairCells_append, show (ps ++ [p]).length = ps.length + 1 from by simp]; exact h2
    · refine Below.grown ((al_below w _).mono hB) h3 (by rw [al_size]; omega) ?_
      intro k hk
      rcases hown.2 with ⟨rfl, _⟩ | ⟨g, cap, cur, rfl, hBg, _⟩
      · cases hk
      · cases hk; exact hBg
theorem cutLine_len {l a b : Bytes} (h : cutLine l = some (a, b)) : a.length + b.length + 2 = l.length := by
  rcases cutLine_index l with ⟨h1, _⟩ | ⟨i, h0, _, h2⟩
  · rw [h1] at h; cases h
  · rw [h2] at h; cases h
    simp only [List.length_take, List.length_drop]; omega
theorem hdrsS_fuel : ∀ (f g : Nat) (acc : List Pr) (l : Bytes), l.length < f → l.length < g → hdrsS f acc l = hdrsS g acc l
  | 0, _, _, _, h, _ => by omega
  | _, 0, _, _, _, h => by omega
  | f + 1, g + 1, acc, l, h1, h2 => by
    unfold hdrsS
    cases hc : cutLine l with
    | none => rfl
    | some ab =>
      obtain ⟨a, b⟩ := ab
      have := cutLine_len hc
      simp only
      split
      · rfl
      split
      · rfl
      cases hdrS a with
      | none => rfl
      | some h => simp only; rw [hdrsS_fuel f g _ _ (by omega) (by omega)]
theorem dropWhile_len (p : UInt8 → Bool) (l : Bytes) : (l.dropWhile p).length ≤ l.length := (List.dropWhile_sublist p).length_le
theorem hdrS_len {l : Bytes} {p : Pr} (h : hdrS l = some p) : p.1.length ≤ l.length ∧ p.2.length ≤ l.length := by
  unfold hdrS at h
  split at h
  · cases h
  · rename_i n v hc
    have hl := cut1_len hc
    split at h
    · split at h
      · cases h
        refine ⟨by simp [Lib.toLowerA]; omega, ?_⟩
        have h1 := dropWhile_len (fun x => x == 32) v.reverse
        have h2 := dropWhile_len (fun x => x == 32) (v.reverse.dropWhile (fun x => x == 32)).reverse
        simp only [List.length_reverse] at h1 h2
        show (Lib.trimB v 32).length ≤ _
        unfold Lib.trimB Lib.trimLeftB Lib.trimRightB
        omega
      · cases h
    · cases h
/-- Headers read: their list, a fresh row, and what is left. -/
def HdrsPost (o : Except Int (List Pr × Bytes)) (n : Nat) (e : Ending) (w w' : World) : Prop :=
  match o with
  | .ok (ps, r) => ∃ v, e = .returned (.tuple #[v, .string (mkS r)]) ∧ PairsAt w' v ps ∧ FreshV w.heap.size v ∧ ps.length ≤ 32 ∧ (∀ p ∈ ps, p.1.length ≤ n ∧ p.2.length ≤ n) ∧ r.length ≤ n
  | .error er => e = die er
theorem headers_ (s0 : ByteArray) (hs0 : s0.size ≤ 1000000) (w : World) (hG : G w) :
    Calls Tryz.prog 51 #[.string s0] w fun e w' => HdrsPost (hdrsS ((toL s0).length + 1) [] (toL s0)) s0.size e w w' ∧ Below w.heap.size w w' := by
  have hG9 := hG.size
  refine calls_X Tryz.func51 rfl Tryz.ntmps51 Tryz.results51 rfl rfl (by kernel_rfl) fun R hR => ?_
  simp only [push_cast, Nat.reduceBEq, Nat.reduceLeDiff, Nat.reduceAdd]
  generalize hH : hdrsS ((toL s0).length + 1) [] (toL s0) = H at hR
  refine law_loop [(0, 0), (2, 39)] (fun n h w' => ∃ (s : ByteArray) (acc : List Pr) (v : Value), s.size ≤ s0.size ∧ n = s.size ∧ h 0 = .string s ∧ h 4 = v ∧ w'.ownsRow w.heap.size 38 2 v acc.length (pairCells acc) ∧ acc.length ≤ 32 ∧ (∀ p ∈ acc, p.1.length ≤ s0.size ∧ p.2.length ≤ s0.size) ∧ H = hdrsS ((toL s).length + 1) acc (toL s) ∧ Below w.heap.size w w') s0.size ⟨s0, [], _, by omega, rfl, rfl, rfl, ⟨rfl, .inl ⟨rfl, rfl⟩⟩, by simp, by simp, hH.symm, Below.refl _ _⟩ ?_
  rintro n h w2 ⟨s, acc, v, hs, hn, h0, h4, hown, hacc, hsh, hf, hb⟩ T hT
  obtain ⟨A, c, rfl, _⟩ := pairsAt_shape (pairs_of_own hown)
  have hG2 := hG.step hb hG9
  obtain ⟨m, hm⟩ := hG2.max
  simp only [push_cast, Nat.reduceBEq, Nat.reduceLeDiff, Nat.reduceAdd, h0, h4]
  refine (line_ s m (by omega) w2 hm).mono ?_
  rintro e w3 ⟨rfl, hb3⟩
  have hb03 := hb.trans (hb3.mono hb.size)
  rw [hdrsS] at hf
  cases hc : cutLine (toL s) with
  | none =>
    rw [hc] at hf
    simp only [push_cast, Nat.reduceBEq, Nat.reduceLeDiff, Nat.reduceAdd, die]
    exact hR _ _ ⟨by rw [hf]; rfl, hb03⟩
  | some ab =>
    obtain ⟨a, b⟩ := ab
    have hlab := cutLine_len hc
    rw [toL_len] at hlab
    rw [hc] at hf
    simp only at hf
    simp only [push_cast, Nat.reduceBEq, Nat.reduceLeDiff, Nat.reduceAdd, h0, h4, mkS_nil]
    refine ⟨fun ha => hR _ _ ⟨?_, hb03⟩, fun ha => ?_⟩
    · simp only [decide_eq_true_eq] at ha
      rw [hf, if_pos ha]
      exact ⟨_, rfl, pairsAt_below (pairs_of_own hown) hb3, fresh_of_own hown, hacc, hsh, by omega⟩
    simp only [decide_eq_false_iff_not] at ha
    rw [if_neg ha] at hf
    by_cases hlt : acc.length < 32
    · rw [if_neg (by omega)] at hf
      rw [decide_eq_true (show ((acc.length : Nat) : Int) < 32 by omega)]
      refine (must_t _ _).mono ?_
      rintro e w3 ⟨rfl, rfl⟩
      simp only [push_cast, Nat.reduceBEq, Nat.reduceLeDiff, Nat.reduceAdd, h0, h4]
      have hs2 := hb.size
      have hs3 := hb3.size
      refine (header_ (mkS a) (by rw [size_mkS]; omega) w3 (hG2.step hb3 (by omega))).mono ?_
      rintro e w4 ⟨rfl, hb4⟩
      have hs4 := hb4.size
      have hb04 := hb03.trans (hb4.mono hb03.size)
      rw [toL_mkS]
      cases hh : hdrS a with
      | none =>
        rw [hh] at hf
        simp only [push_cast, Nat.reduceBEq, Nat.reduceLeDiff, Nat.reduceAdd, h0, h4, endO, die]
        exact hR _ _ ⟨by rw [hf]; rfl, hb04⟩
      | some x =>
        rw [hh] at hf
        have hxl := hdrS_len hh
        obtain ⟨x1, x2⟩ := x
        simp only at hf hxl
        have hown4 := own_below hown (hb3.trans ((hb4.mono hs3).trans ((al_below w4 [([.string (mkS x1), .string (mkS x2)], 38)]).mono (Nat.le_trans hs3 hs4))))
        simp only [push_cast, Nat.reduceBEq, Nat.reduceLeDiff, Nat.reduceAdd, h0, h4, endO, hdV]
        refine (find_ _ acc (mkS x1) _ (pairs_of_own hown4) (by omega)).mono ?_
        rintro e w5 ⟨rfl, hb5⟩
        rw [toL_mkS]
        have hs5 : w4.heap.size + 1 ≤ w5.heap.size := by have := hb5.size; simpa [al_size] using this
        have hown5 := own_below hown4 hb5
        obtain ⟨d0, _⟩ := new_cell hb5 (by simp [al_size]) 0
        obtain ⟨d1, _⟩ := new_cell hb5 (by simp [al_size]) 1
        simp only [List.getElem?_cons_zero, List.getElem?_cons_succ] at d0 d1
        have hb05 : Below w.heap.size w w5 := (hb04.trans ((al_below w4 [([.string (mkS x1), .string (mkS x2)], 38)]).mono hb04.size)).trans (hb5.mono (by rw [al_size]; omega))
        cases hg : getP acc x1 with
        | some y =>
          rw [hg] at hf
          simp only [push_cast, Nat.reduceBEq, Nat.reduceLeDiff, Nat.reduceAdd, gvP]
          refine (must_f _ _).mono ?_
          rintro e w3 ⟨rfl, rfl⟩
          simp only [push_cast, Nat.reduceBEq, Nat.reduceLeDiff, Nat.reduceAdd, h0, h4]
          exact hR _ _ ⟨by rw [hf]; rfl, hb05⟩
        | none =>
          rw [hg] at hf
          simp only [push_cast, Nat.reduceBEq, Nat.reduceLeDiff, Nat.reduceAdd, gvP]
          refine (must_t _ _).mono ?_
          rintro e w6 ⟨rfl, rfl⟩
          simp only [push_cast, Nat.reduceBEq, Nat.reduceLeDiff, Nat.reduceAdd, gvP, h0, h4, d0, d1, bsl25]
          refine getR_of (append25 w5 w.heap.size _ acc (x1, x2) hown5 hb05.size (by omega)) ?_
          rintro v' w6 ⟨hown6, hb6⟩
          simp only [push_cast, Nat.reduceBEq, Nat.reduceLeDiff, Nat.reduceAdd, h0, h4]
          refine hT (mkS b).size _ _ (by simp only [push_cast, Nat.reduceBEq, Nat.reduceLeDiff]) (by rw [size_mkS]; omega) ⟨mkS b, acc ++ [(x1, x2)], v', by rw [size_mkS]; omega, rfl, ?_, ?_, hown6, ?_, ?_, ?_, hb05.trans hb6⟩
          · simp only [push_cast, Nat.reduceBEq, Nat.reduceLeDiff]
          · simp only [push_cast, Nat.reduceBEq, Nat.reduceLeDiff]
          · simp only [List.length_append, List.length_cons, List.length_nil]; omega
          · intro p hp
            rcases List.mem_append.1 hp with hp | hp
            · exact hsh p hp
            · simp at hp; subst hp; exact ⟨by simp; omega, by simp; omega⟩
          · rw [hf, toL_mkS, if_neg (by simp)]
            exact hdrsS_fuel _ _ _ _ (by rw [toL_len]; omega) (by omega)
    · rw [if_pos (by omega)] at hf
      rw [decide_eq_false (show ¬ ((acc.length : Nat) : Int) < 32 by omega)]
      refine (must_f _ _).mono ?_
      rintro e w3 ⟨rfl, rfl⟩
      simp only [push_cast, Nat.reduceBEq, Nat.reduceLeDiff, Nat.reduceAdd, h0, h4]
      exact hR _ _ ⟨by rw [hf]; rfl, hb03⟩
end Go.Proofs.YtciepffocobgpaaGreatDoor
namespace Go.Proofs.YtciepffocobgpaaGreatDoor
open Go Go.Sx Go.RowKit
set_option linter.unusedSimpArgs false
set_option linter.unusedVariables false
/-- A request's five cells. -/
structure RC (w : World) (b : Nat) (v0 v1 v2 v3 v4 : Value) : Prop where
  c0 : w.cell? ⟨b, 0, none⟩ = some v0
  c1 : w.cell? ⟨b, 1, none⟩ = some v1
  c2 : w.cell? ⟨b, 2, none⟩ = some v2
  c3 : w.cell? ⟨b, 3, none⟩ = some v3
  c4 : w.cell? ⟨b, 4, none⟩ = some v4
  f : ∀ i, w.frozen? ⟨b, i, none⟩ = false
theorem RC.step {w w' : World} {B b : Nat} {v0 v1 v2 v3 v4 : Value} (h : RC w b v0 v1 v2 v3 v4) (hb : Below B w w') (hlt : b < B) : RC w' b v0 v1 v2 v3 v4 :=
  ⟨(hb.cell (p := ⟨b, 0, none⟩) hlt).trans h.c0, (hb.cell (p := ⟨b, 1, none⟩) hlt).trans h.c1, (hb.cell (p := ⟨b, 2, none⟩) hlt).trans h.c2, (hb.cell (p := ⟨b, 3, none⟩) hlt).trans h.c3, (hb.cell (p := ⟨b, 4, none⟩) hlt).trans h.c4, fun i => (hb.frozen (p := ⟨b, i, none⟩) hlt).trans (h.f i)⟩
theorem RC.set1 {w : World} {b : Nat} {v0 v1 v2 v3 v4 : Value} (h : RC w b v0 v1 v2 v3 v4) (v : Value) : RC (w.setCell ⟨b, 1, none⟩ v) b v0 v v2 v3 v4 :=
  ⟨by rw [sc_cell]; exact h.c0, by rw [sc_cell, h.c1]; rfl, by rw [sc_cell]; exact h.c2, by rw [sc_cell]; exact h.c3, by rw [sc_cell]; exact h.c4, fun i => by rw [sc_frz]; exact h.f i⟩
theorem RC.set0 {w : World} {b : Nat} {v0 v1 v2 v3 v4 : Value} (h : RC w b v0 v1 v2 v3 v4) (v : Value) : RC (w.setCell ⟨b, 0, none⟩ v) b v v1 v2 v3 v4 :=
  ⟨by rw [sc_cell, h.c0]; rfl, by rw [sc_cell]; exact h.c1, by rw [sc_cell]; exact h.c2, by rw [sc_cell]; exact h.c3, by rw [sc_cell]; exact h.c4, fun i => by rw [sc_frz]; exact h.f i⟩
theorem RC.set2 {w : World} {b : Nat} {v0 v1 v2 v3 v4 : Value} (h : RC w b v0 v1 v2 v3 v4) (v : Value) : RC (w.setCell ⟨b, 2, none⟩ v) b v0 v1 v v3 v4 :=
  ⟨by rw [sc_cell]; exact h.c0, by rw [sc_cell]; exact h.c1, by rw [sc_cell, h.c2]; rfl, by rw [sc_cell]; exact h.c3, by rw [sc_cell]; exact h.c4, fun i => by rw [sc_frz]; exact h.f i⟩
theorem RC.set3 {w : World} {b : Nat} {v0 v1 v2 v3 v4 : Value} (h : RC w b v0 v1 v2 v3 v4) (v : Value) : RC (w.setCell ⟨b, 3, none⟩ v) b v0 v1 v2 v v4 :=
  ⟨by rw [sc_cell]; exact h.c0, by rw [sc_cell]; exact h.c1, by rw [sc_cell]; exact h.c2, by rw [sc_cell, h.c3]; rfl, by rw [sc_cell]; exact h.c4, fun i => by rw [sc_frz]; exact h.f i⟩
theorem RC.set4 {w : World} {b : Nat} {v0 v1 v2 v3 v4 : Value} (h : RC w b v0 v1 v2 v3 v4) (v : Value) : RC (w.setCell ⟨b, 4, none⟩ v) b v0 v1 v2 v3 v :=
  ⟨by rw [sc_cell]; exact h.c0, by rw [sc_cell]; exact h.c1, by rw [sc_cell]; exact h.c2, by rw [sc_cell]; exact h.c3, by rw [sc_cell, h.c4]; rfl, fun i => by rw [sc_frz]; exact h.f i⟩
def TargetPost (o : Except Int (Bytes × List Pr)) (e : Ending) (w' : World) (b : Nat) (v0 v3 v4 : Value) : Prop :=
  match o with
  | .ok (p, q) => e = .returned (.tuple #[]) ∧ ∃ v, RC w' b v0 (.string (mkS p)) v v3 v4 ∧ PairsAt w' v q ∧ FreshV (b + 1) v
  | .error er => e = die er
theorem hasPrefix_one (l : Bytes) (c : UInt8) : Lib.hasPrefix l [c] = decide (l.head? = some c) := by
  cases l with
  | nil => simp [Lib.hasPrefix, List.isPrefixOf]
  | cons x r =>
    rw [Bool.eq_iff_iff]
    simp only [Lib.hasPrefix, List.isPrefixOf, Bool.and_true, beq_iff_eq, List.head?_cons, Option.some.injEq, decide_eq_true_eq]; exact eq_comm
theorem target_ (b : Nat) (v0 v1 v3 v4 : Value) (t : ByteArray) (ht : t.size ≤ 1000000) (w : World) (hG : G w) (hb9 : 9 ≤ b) (hbs : b < w.heap.size) (hR0 : RC w b v0 v1 (.slice none 0 0) v3 v4) :
    Calls Tryz.prog 87 #[.pointer (some ⟨b, 0, none⟩), .string t] w fun e w' => TargetPost (targetS (toL t)) e w' b v0 v3 v4 ∧ Below b w w' := by
  obtain ⟨m, hm⟩ := hG.max
  refine calls_X Tryz.func87 rfl Tryz.ntmps87 Tryz.results87 rfl rfl (by kernel_rfl) fun R hR => ?_
  simp only [push_cast, Nat.reduceBEq, Nat.reduceLeDiff, Nat.reduceAdd]
  refine (Tryz.strings_Cut t _ m w (by omega) hm).mono ?_
  rintro e w1 ⟨rfl, n, hw1⟩
  have hb1 : Below w.heap.size w w1 := by rw [hw1]; exact drewN_below w n
  clear hw1
  rw [show (⟨#[63]⟩ : ByteArray).data.toList = [63] from rfl, show t.data.toList = toL t from rfl]
  obtain ⟨p, q, hq, hpl, hql, hval, hspec⟩ : ∃ (p q : Bytes) (hq : Bool), p.length ≤ 1000000 ∧ q.length ≤ 1000000 ∧
      Lib.cut (toL t) [63] = (p, q, hq) ∧
      targetS (toL t) = if p.head? = some 47 then if ofB pathC 100 p = true then (if hq = true then (match form q with | .error e => .error e | .ok l => .ok (p, l)) else .ok (p, [])) else .error 31 else .error 31 := by
    cases hc : cut1 63 (toL t) with
    | none => exact ⟨toL t, [], false, by rw [toL_len]; exact ht, by simp, by rw [cut_one, hc], by rw [targetS, hc]; rfl⟩
    | some ab =>
      have := cut1_len hc
      rw [toL_len] at this
      exact ⟨ab.1, ab.2, true, by omega, by omega, by rw [cut_one, hc], by rw [targetS, hc]; rfl⟩
  rw [hval]
  have hG1 := hG.step hb1 hG.size
  have hs1 := hb1.size
  simp only [push_cast, Nat.reduceBEq, Nat.reduceLeDiff, Nat.reduceAdd]
  refine (Tryz.strings_HasPrefix (mkS p) _ w1).mono ?_
  rintro e w1 ⟨rfl, rfl⟩
  rw [show (mkS p).data.toList = p from toL_mkS p, show (⟨#[47]⟩ : ByteArray).data.toList = [47] from rfl, hasPrefix_one]
  by_cases hh : p.head? = some 47
  · rw [if_pos hh] at hspec
    rw [decide_eq_true hh]
    simp only [push_cast, Nat.reduceBEq, Nat.reduceLeDiff, Nat.reduceAdd]
    refine (of_C (mkS p) pathC 100 (by decide) (by decide) (by rw [size_mkS]; omega) w1 hG1).mono ?_
    rintro e w2 ⟨rfl, hb2⟩
    rw [toL_mkS]
    have hb02 := hb1.trans (hb2.mono hs1)
    have hs2 := hb2.size
    cases ho : ofB pathC 100 p with
    | false =>
      rw [ho] at hspec
      simp only [push_cast, Nat.reduceBEq, Nat.reduceLeDiff, Nat.reduceAdd]
      refine (must_f _ _).mono ?_
      rintro e w3 ⟨rfl, rfl⟩
      simp only [push_cast, Nat.reduceBEq, Nat.reduceLeDiff, Nat.reduceAdd]
      exact hR _ _ ⟨by rw [hspec]; rfl, hb02.mono (by omega)⟩
    | true =>
      rw [ho, if_pos rfl] at hspec
      simp only [push_cast, Nat.reduceBEq, Nat.reduceLeDiff, Nat.reduceAdd]
      refine (must_t _ _).mono ?_
      rintro e w3 ⟨rfl, rfl⟩
      have hR2 := hR0.step hb02 hbs
      simp only [push_cast, Nat.reduceBEq, Nat.reduceLeDiff, Nat.reduceAdd, hR2.c0, hR2.c1, hR2.f]
      have hR3 := hR2.set1 (.string (mkS p))
      have hb3 : Below b w (w2.setCell ⟨b, 1, none⟩ (.string (mkS p))) := (hb02.mono (B' := b) (by omega)).setCell (p := ⟨b, 1, none⟩) (Nat.le_refl _) _
      cases hq with
      | false =>
        simp only [push_cast]
        exact hR _ _ ⟨by rw [hspec]; exact ⟨rfl, _, hR3, .inl ⟨0, rfl, rfl⟩, trivial⟩, hb3⟩
      | true =>
        rw [if_pos rfl] at hspec
        simp only [push_cast]
        have hG3 := (hG1.step hb2 hG1.size).step ((Below.refl b w2).setCell (p := ⟨b, 1, none⟩) (Nat.le_refl _) (.string (mkS p))) hb9
        have hG3s := hG3.size
        obtain ⟨m3, hm3⟩ := hG3.max
        refine (Form_ (mkS q) m3 (by rw [size_mkS]; omega) _ (by omega) hm3).mono ?_
        rintro e w4 ⟨hF, hb4⟩
        rw [toL_mkS] at hF
        have hb04 : Below b w w4 := hb3.trans (hb4.mono (by rw [sc_size]; omega))
        have hR4 := hR3.step hb4 (by rw [sc_size]; omega)
        cases hf : form q with
        | error er =>
          rw [hf] at hF hspec
          simp only [FormPost] at hF
          subst hF
          simp only at hspec
          simp only [push_cast, Nat.reduceBEq, Nat.reduceLeDiff, Nat.reduceAdd]
          have hne : decide (er = 0) = false := decide_eq_false (form_err hf)
          rw [hne]
          refine (must_f _ _).mono ?_
          rintro e w3 ⟨rfl, rfl⟩
          simp only [push_cast, Nat.reduceBEq, Nat.reduceLeDiff, Nat.reduceAdd]
          exact hR _ _ ⟨by rw [hspec]; rfl, hb04⟩
        | ok ps =>
          rw [hf] at hF hspec
          obtain ⟨v, rfl, hv, hfr⟩ := hF
          simp only at hspec
          have hv5 : PairsAt (w4.setCell ⟨b, 2, none⟩ v) v ps := pairsAt_set hv hfr (by rw [sc_size]; omega)
          obtain ⟨A, c, rfl, _⟩ := pairsAt_shape hv
          simp only [push_cast, Nat.reduceBEq, Nat.reduceLeDiff, Nat.reduceAdd, decide_true]
          refine (must_t _ _).mono ?_
          rintro e w5 ⟨rfl, rfl⟩
          simp only [push_cast, Nat.reduceBEq, Nat.reduceLeDiff, Nat.reduceAdd, hR4.c2, hR4.f]
          exact hR _ _ ⟨by rw [hspec]; exact ⟨rfl, _, hR4.set2 _, hv5, hfr.mono (by rw [sc_size]; omega)⟩, hb04.setCell (p := ⟨b, 2, none⟩) (Nat.le_refl _) _⟩
  · rw [if_neg hh] at hspec
    rw [decide_eq_false hh]
    simp only [push_cast, Nat.reduceBEq, Nat.reduceLeDiff, Nat.reduceAdd]
    refine (must_f _ _).mono ?_
    rintro e w3 ⟨rfl, rfl⟩
    simp only [push_cast, Nat.reduceBEq, Nat.reduceLeDiff, Nat.reduceAdd]
    exact hR _ _ ⟨by rw [hspec]; rfl, hb1.mono (by omega)⟩
end Go.Proofs.YtciepffocobgpaaGreatDoor
namespace Go.Proofs.YtciepffocobgpaaGreatDoor
open Go Go.Sx Go.RowKit
set_option linter.unusedSimpArgs false
set_option linter.unusedVariables false
def FirstPost (o : Except Int (Bytes × Bytes × List Pr)) (e : Ending) (w' : World) (b : Nat) (v3 v4 : Value) : Prop :=
  match o with
  | .ok (m, p, q) => e = .returned (.tuple #[]) ∧ ∃ v, RC w' b (.string (mkS m)) (.string (mkS p)) v v3 v4 ∧ PairsAt w' v q ∧ FreshV (b + 1) v
  | .error er => e = die er
theorem firstS_three (l m t v : Bytes) (h : parts 32 l = [m, t, v]) : firstS l = if ofB upC 10 m = true then if v = version then (match targetS t with | .error e => .error e | .ok (p, q) => .ok (m, p, q)) else .error 31 else .error 31 := by
  unfold firstS; rw [h]; rfl
theorem firstS_not (l : Bytes) (h : (parts 32 l).length ≠ 3) : firstS l = .error 31 := by
  unfold firstS
  split
  · rename_i hh; rw [hh] at h; exact absurd rfl h
  · rfl
theorem first_ (b : Nat) (v0 v1 v3 v4 : Value) (t : ByteArray) (ht : t.size ≤ 1000000) (w : World) (hG : G w) (hb9 : 9 ≤ b) (hbs : b < w.heap.size) (hR0 : RC w b v0 v1 (.slice none 0 0) v3 v4) :
    Calls Tryz.prog 50 #[.pointer (some ⟨b, 0, none⟩), .string t] w fun e w' => FirstPost (firstS (toL t)) e w' b v3 v4 ∧ Below b w w' := by
  obtain ⟨m, hm⟩ := hG.max
  have hG9 := hG.size
  refine calls_X Tryz.func50 rfl Tryz.ntmps50 Tryz.results50 rfl rfl (by kernel_rfl) fun R hR => ?_
  simp only [push_cast, Nat.reduceBEq, Nat.reduceLeDiff, Nat.reduceAdd]
  refine (Tryz.strings_Split t _ m w (by omega) hm (by decide)).mono ?_
  rintro e w1 ⟨rfl, hw1⟩
  rw [split_cells, al_alloc, List.toList_toArray] at hw1
  have hlen := (split_parts t 32).2
  rw [← hlen]
  have hple := parts_le 32 (toL t)
  rw [toL_len] at hple
  have hb1 : Below w.heap.size w w1 := by rw [hw1]; exact al_below _ _
  have hs1 : w1.heap.size = w.heap.size + 1 := by rw [hw1, al_size]; rfl
  have hG1 := hG.step hb1 hG9
  by_cases h3 : (parts 32 (toL t)).length = 3
  · obtain ⟨x0, x1, x2, hx⟩ : ∃ x0 x1 x2, parts 32 (toL t) = [x0, x1, x2] := by
      rcases hp : parts 32 (toL t) with _ | ⟨x0, _ | ⟨x1, _ | ⟨x2, _ | ⟨x3, r⟩⟩⟩⟩
      all_goals rw [hp] at h3
      all_goals simp at h3
      exact ⟨x0, x1, x2, rfl⟩
    have hS := firstS_three _ _ _ _ hx
    rw [hx] at hw1 hple ⊢
    have l0 := hple x0 (by simp)
    have l1 := hple x1 (by simp)
    have l2 := hple x2 (by simp)
    have c0 : w1.cell? ⟨w.heap.size, 0, none⟩ = some (.string (mkS x0)) := by rw [hw1, al_cell0]; rfl
    have c1 : w1.cell? ⟨w.heap.size, 1, none⟩ = some (.string (mkS x1)) := by rw [hw1, al_cell0]; rfl
    have c2 : w1.cell? ⟨w.heap.size, 2, none⟩ = some (.string (mkS x2)) := by rw [hw1, al_cell0]; rfl
    clear hw1
    have hsl : w.heap.size < w1.heap.size := by omega
    simp only [push_cast, Nat.reduceBEq, Nat.reduceLeDiff, Nat.reduceAdd, Nat.reduceMul, Int.reduceAdd, Int.reduceEq, Int.reduceLT, Int.reduceLE, Int.reduceToNat, decide_true, c0, c1, c2]
    refine (of_C (mkS x0) upC 10 (by decide) (by decide) (by rw [size_mkS]; omega) w1 hG1).mono ?_
    rintro e w2 ⟨rfl, hb2⟩
    rw [toL_mkS]
    have d0 := (hb2.cell (p := ⟨w.heap.size, 0, none⟩) hsl).trans c0
    have d1 := (hb2.cell (p := ⟨w.heap.size, 1, none⟩) hsl).trans c1
    have d2 := (hb2.cell (p := ⟨w.heap.size, 2, none⟩) hsl).trans c2
    have hb02 := hb1.trans (hb2.mono hb1.size)
    have hs2 := hb2.size
    cases ho : ofB upC 10 x0 with
    | false =>
      simp only [push_cast, Nat.reduceBEq, Nat.reduceLeDiff, Nat.reduceAdd, Nat.reduceMul, Int.reduceAdd, Int.reduceEq, Int.reduceLT, Int.reduceLE, Int.reduceToNat, decide_true, d0, d1, d2]
      refine (must_f _ _).mono ?_
      rintro e w3 ⟨rfl, rfl⟩
      simp only [push_cast, Nat.reduceBEq, Nat.reduceLeDiff, Nat.reduceAdd]
      exact hR _ _ ⟨by rw [hS, ho]; rfl, hb02.mono (by omega)⟩
    | true =>
      rw [ho, if_pos rfl] at hS
      simp only [push_cast, Nat.reduceBEq, Nat.reduceLeDiff, Nat.reduceAdd, Nat.reduceMul, Int.reduceAdd, Int.reduceEq, Int.reduceLT, Int.reduceLE, Int.reduceToNat, decide_true, d0, d1, d2]
      have hv : decide (mkS x2 = ⟨#[72, 84, 84, 80, 47, 49, 46, 49]⟩) = decide (x2 = version) := by
        rw [Bool.eq_iff_iff, decide_eq_true_iff, decide_eq_true_iff, mkS_eq]; rfl
      rw [hv]
      by_cases hx2 : x2 = version
      · rw [if_pos hx2] at hS
        rw [decide_eq_true hx2]
        refine (must_t _ _).mono ?_
        rintro e w3 ⟨rfl, rfl⟩
        have hR2 := hR0.step hb02 hbs
        simp only [push_cast, Nat.reduceBEq, Nat.reduceLeDiff, Nat.reduceAdd, Nat.reduceMul, Int.reduceAdd, Int.reduceEq, Int.reduceLT, Int.reduceLE, Int.reduceToNat, decide_true, d0, d1, d2, hR2.c0, hR2.f]
        have hR3 := hR2.set0 (.string (mkS x0))
        have hb3 : Below b w (w2.setCell ⟨b, 0, none⟩ (.string (mkS x0))) := (hb02.mono (B' := b) (by omega)).setCell (p := ⟨b, 0, none⟩) (Nat.le_refl _) _
        have hG3 := (hG1.step hb2 hG1.size).step ((Below.refl b w2).setCell (p := ⟨b, 0, none⟩) (Nat.le_refl _) (.string (mkS x0))) hb9
        have e1 : (w2.setCell ⟨b, 0, none⟩ (.string (mkS x0))).cell? ⟨w.heap.size, 1, none⟩ = some (.string (mkS x1)) := by
          rw [World.cell?_setCell_far w2 ⟨b, 0, none⟩ _ _ (show b ≠ w.heap.size by omega)]; exact d1
        simp only [push_cast, e1]
        refine (target_ b _ v1 v3 v4 (mkS x1) (by rw [size_mkS]; omega) _ hG3 hb9 (by rw [sc_size]; omega) hR3).mono ?_
        rintro e w4 ⟨hT, hb4⟩
        rw [toL_mkS] at hT
        cases ht1 : targetS x1 with
        | error er =>
          rw [ht1] at hT hS
          simp only [TargetPost, die] at hT
          subst hT
          simp only [push_cast]
          exact hR _ _ ⟨by rw [hS]; rfl, hb3.trans hb4⟩
        | ok pq =>
          obtain ⟨p, q⟩ := pq
          rw [ht1] at hT hS
          obtain ⟨rfl, v, hR4, hv4, hf4⟩ := hT
          simp only [push_cast]
          exact hR _ _ ⟨by rw [hS]; exact ⟨rfl, v, hR4, hv4, hf4⟩, hb3.trans hb4⟩
      · rw [if_neg hx2] at hS
        rw [decide_eq_false hx2]
        refine (must_f _ _).mono ?_
        rintro e w3 ⟨rfl, rfl⟩
        simp only [push_cast, Nat.reduceBEq, Nat.reduceLeDiff, Nat.reduceAdd]
        exact hR _ _ ⟨by rw [hS]; rfl, hb02.mono (by omega)⟩
  · have hS := firstS_not _ h3
    have hd : decide ((((parts 32 (toL t)).length : Nat) : Int) = 3) = false := decide_eq_false (by omega)
    simp only [push_cast, Nat.reduceBEq, Nat.reduceLeDiff, Nat.reduceAdd, hd]
    refine (must_f _ _).mono ?_
    rintro e w3 ⟨rfl, rfl⟩
    simp only [push_cast, Nat.reduceBEq, Nat.reduceLeDiff, Nat.reduceAdd]
    exact hR _ _ ⟨by rw [hS]; rfl, hb1.mono (by omega)⟩
end Go.Proofs.YtciepffocobgpaaGreatDoor
namespace Go.Proofs.YtciepffocobgpaaGreatDoor
open Go Go.Sx Go.RowKit
set_option linter.unusedSimpArgs false
set_option linter.unusedVariables false
theorem RC.far {w : World} {b b2 i : Nat} {v0 v1 v2 v3 v4 x : Value} (h : RC w b v0 v1 v2 v3 v4) (hne : b2 ≠ b) : RC (w.setCell ⟨b2, i, none⟩ x) b v0 v1 v2 v3 v4 :=
  ⟨(World.cell?_setCell_far w ⟨b2, i, none⟩ ⟨b, 0, none⟩ x hne).trans h.c0, (World.cell?_setCell_far w ⟨b2, i, none⟩ ⟨b, 1, none⟩ x hne).trans h.c1, (World.cell?_setCell_far w ⟨b2, i, none⟩ ⟨b, 2, none⟩ x hne).trans h.c2, (World.cell?_setCell_far w ⟨b2, i, none⟩ ⟨b, 3, none⟩ x hne).trans h.c3, (World.cell?_setCell_far w ⟨b2, i, none⟩ ⟨b, 4, none⟩ x hne).trans h.c4, fun i => by rw [sc_frz]; exact h.f i⟩
theorem bytesAt_set {w : World} {v x : Value} {l : Bytes} {B b i : Nat} (h : BytesAt w v l) (hf : FreshV B v) (hb : b < B) : BytesAt (w.setCell ⟨b, i, none⟩ x) v l := by
  rcases h with h | ⟨b1, o, c, rfl, h2, h3⟩
  · exact .inl h
  · have hne : b ≠ b1 := by have : B ≤ b1 := hf; omega
    exact .inr ⟨b1, o, c, rfl, by rw [sc_size]; exact h2, fun j p hj => by rw [World.cell?_setCell_far w ⟨b, i, none⟩ _ x hne]; exact h3 j p hj⟩
theorem cells_of_pairs {w : World} {v : Value} {ps : List Pr} (h : PairsAt w v ps) : v.cells = #[v] ∧ isCell v = true := by
  rcases h with ⟨c, rfl, _⟩ | ⟨b, o, c, rfl, _⟩ <;> exact ⟨rfl, rfl⟩
def ReqPost (o : Except Int Req) (e : Ending) (w w' : World) : Prop :=
  match o with
  | .ok r => ∃ vq vh vb, e = .returned (.agg #[.string (mkS r.method), .string (mkS r.path), vq, vh, vb]) ∧ (PairsAt w' vq r.query ∧ FreshV w.heap.size vq) ∧ (PairsAt w' vh r.hdrs ∧ FreshV w.heap.size vh) ∧ (BytesAt w' vb r.body ∧ FreshV w.heap.size vb)
  | .error er => e = die er
set_option maxHeartbeats 1000000 in
theorem request_ (s : ByteArray) (w : World) (hG : G w) :
    Calls Tryz.prog 24 #[.string s] w fun e w' => ReqPost (reqS (toL s)) e w w' ∧ Below w.heap.size w w' := by
  have hG9 := hG.size
  refine calls_X Tryz.func24 rfl Tryz.ntmps24 Tryz.results24 rfl rfl (by kernel_rfl) fun R hR => ?_
  simp only [push_cast, Nat.reduceBEq, Nat.reduceLeDiff, Nat.reduceAdd]
  generalize hw0 : al w [([Value.string ⟨#[]⟩, .string ⟨#[]⟩, .slice none 0 0, .slice none 0 0, .slice none 0 0], 27), ([Value.string ⟨#[]⟩, .string ⟨#[]⟩, .slice none 0 0, .slice none 0 0, .slice none 0 0], 27)] = w0
  have hb0 : Below w.heap.size w w0 := by rw [← hw0]; exact al_below _ _
  have hs0 : w0.heap.size = w.heap.size + 2 := by rw [← hw0, al_size]; rfl
  have hA : RC w0 w.heap.size (.string ⟨#[]⟩) (.string ⟨#[]⟩) (.slice none 0 0) (.slice none 0 0) (.slice none 0 0) := by
    rw [← hw0]; exact ⟨al_cell0 .., al_cell0 .., al_cell0 .., al_cell0 .., al_cell0 .., fun i => al_frz0 ..⟩
  have hB : RC w0 (w.heap.size + 1) (.string ⟨#[]⟩) (.string ⟨#[]⟩) (.slice none 0 0) (.slice none 0 0) (.slice none 0 0) := by
    rw [← hw0]; exact ⟨al_cell .., al_cell .., al_cell .., al_cell .., al_cell .., fun i => al_frz ..⟩
  have hG0 := hG.step hb0 hG9
  clear hw0
  by_cases hlen : 16384 < s.size
  · rw [decide_eq_false (show ¬ ((s.size : Int) ≤ 16384) by omega)]
    refine (must_f _ _).mono ?_
    rintro e w3 ⟨rfl, rfl⟩
    simp only [push_cast, Nat.reduceBEq, Nat.reduceLeDiff, Nat.reduceAdd]
    exact hR _ _ ⟨by rw [reqS, if_pos (by rw [toL_len]; exact hlen)]; rfl, hb0⟩
  rw [decide_eq_true (show ((s.size : Int) ≤ 16384) by omega)]
  have hS : reqS (toL s) = match cutLine (toL s) with
      | none => .error 31
      | some (l, rest) =>
        match firstS l with
        | .error e => .error e
        | .ok (m, p, q) =>
          match hdrsS (rest.length + 1) [] rest with
          | .error e => .error e
          | .ok (h, rest2) =>
            if (getP h hostB).isSome then
              match bodyS h rest2 8192 with
              | .error e => .error e
              | .ok b => .ok ⟨m, p, q, h, b⟩
            else .error 10 := by rw [reqS, if_neg (by rw [toL_len]; exact hlen)]; rfl
  refine (must_t _ _).mono ?_
  rintro e w1 ⟨rfl, rfl⟩
  simp only [push_cast, Nat.reduceBEq, Nat.reduceLeDiff, Nat.reduceAdd]
  obtain ⟨m, hm⟩ := hG0.max
  refine (line_ s m (by omega) w0 hm).mono ?_
  rintro e w1 ⟨rfl, hb1⟩
  have hs1 := hb1.size
  have hb01 := hb0.trans (hb1.mono hb0.size)
  have hG1 := hG0.step hb1 hG0.size
  cases hc : cutLine (toL s) with
  | none =>
    rw [hc] at hS
    simp only [push_cast, Nat.reduceBEq, Nat.reduceLeDiff, Nat.reduceAdd, die]
    exact hR _ _ ⟨by rw [hS]; rfl, hb01⟩
  | some lr =>
    obtain ⟨l, rest⟩ := lr
    rw [hc] at hS
    simp only at hS
    have hlr := cutLine_len hc
    rw [toL_len] at hlr
    simp only [push_cast, Nat.reduceBEq, Nat.reduceLeDiff, Nat.reduceAdd]
    refine (first_ (w.heap.size + 1) _ _ _ _ (mkS l) (by rw [size_mkS]; omega) w1 hG1 (by omega) (by omega) (hB.step hb1 (by omega))).mono ?_
    rintro e w2 ⟨hF, hb2⟩
    rw [toL_mkS] at hF
    have hs2 := hb2.size
    have hb02 := hb01.trans (hb2.mono (by omega))
    have hA2 := (hA.step hb1 (by omega)).step hb2 (by omega)
    have hG2 := hG1.step hb2 (by omega)
    cases hf : firstS l with
    | error er =>
      rw [hf] at hF hS
      simp only [FirstPost, die] at hF
      subst hF
      simp only [push_cast, Nat.reduceBEq, Nat.reduceLeDiff, Nat.reduceAdd]
      exact hR _ _ ⟨by rw [hS]; rfl, hb02⟩
    | ok mpq =>
      obtain ⟨mt, p, q⟩ := mpq
      rw [hf] at hF hS
      simp only at hS
      obtain ⟨rfl, vq, hB2, hq2, hfq⟩ := hF
      simp only [push_cast, Nat.reduceBEq, Nat.reduceLeDiff, Nat.reduceAdd]
      refine (headers_ (mkS rest) (by rw [size_mkS]; omega) w2 hG2).mono ?_
      rintro e w3 ⟨hH, hb3⟩
      rw [toL_mkS] at hH
      have hs3 := hb3.size
      have hb03 := hb02.trans (hb3.mono hb02.size)
      have hA3 := hA2.step hb3 (by omega)
      have hB3 := hB2.step hb3 (by omega)
      have hG3 := hG2.step hb3 (by omega)
      have hq3 := pairsAt_below hq2 hb3
      cases hh : hdrsS (rest.length + 1) [] rest with
      | error er =>
        rw [hh] at hH hS
        simp only [HdrsPost, die] at hH
        subst hH
        simp only [push_cast, Nat.reduceBEq, Nat.reduceLeDiff, Nat.reduceAdd]
        exact hR _ _ ⟨by rw [hS]; rfl, hb03⟩
      | ok hr =>
        obtain ⟨hs', rest2⟩ := hr
        rw [hh] at hH hS
        simp only at hS
        obtain ⟨vh, rfl, hh3, hfh, hhl, hhs, hr2⟩ := hH
        rw [size_mkS] at hhs hr2
        obtain ⟨hvc, hvi⟩ := cells_of_pairs hh3
        simp only [push_cast, Nat.reduceBEq, Nat.reduceLeDiff, Nat.reduceAdd, hB3.c3, hB3.f, hvc, hvi]
        have hfh' : FreshV (w.heap.size + 2) vh := hfh.mono (by omega)
        have hB4 := hB3.set3 vh
        have hA4 : RC (w3.setCell ⟨w.heap.size + 1, 3, none⟩ vh) w.heap.size _ _ _ _ _ := hA3.far (by omega)
        have hh4 : PairsAt (w3.setCell ⟨w.heap.size + 1, 3, none⟩ vh) vh hs' := pairsAt_set hh3 hfh' (by omega)
        have hq4 : PairsAt (w3.setCell ⟨w.heap.size + 1, 3, none⟩ vh) vq q := pairsAt_set hq3 hfq (by omega)
        have hb4 : Below w.heap.size w (w3.setCell ⟨w.heap.size + 1, 3, none⟩ vh) := hb03.setCell (p := ⟨w.heap.size + 1, 3, none⟩) (by show w.heap.size ≤ w.heap.size + 1; omega) _
        have hG4 := hG.step hb4 hG9
        have hs4 : (w3.setCell ⟨w.heap.size + 1, 3, none⟩ vh).heap.size = w3.heap.size := sc_size ..
        generalize hw4 : w3.setCell ⟨w.heap.size + 1, 3, none⟩ vh = w4 at hB4 hA4 hh4 hq4 hb4 hG4 hs4
        try rw [hw4]
        refine (find_ vh hs' (mkS hostB) w4 hh4 (by omega)).mono ?_
        rintro e w5 ⟨rfl, hb5⟩
        rw [toL_mkS]
        have hs5 := hb5.size
        have hb05 := hb4.trans (hb5.mono hb4.size)
        have hA5 := hA4.step hb5 (by omega)
        have hB5 := hB4.step hb5 (by omega)
        have hG5 := hG4.step hb5 (by omega)
        have hq5 := pairsAt_below hq4 hb5
        have hh5 := pairsAt_below hh4 hb5
        cases hg : getP hs' hostB with
        | none =>
          rw [hg] at hS
          simp only [push_cast, Nat.reduceBEq, Nat.reduceLeDiff, Nat.reduceAdd, gvP]
          refine (must_f _ _).mono ?_
          rintro e w6 ⟨rfl, rfl⟩
          simp only [push_cast, Nat.reduceBEq, Nat.reduceLeDiff, Nat.reduceAdd]
          exact hR _ _ ⟨by rw [hS]; rfl, hb05⟩
        | some hv =>
          rw [hg] at hS
          rw [Option.isSome_some, if_pos rfl] at hS
          simp only [push_cast, Nat.reduceBEq, Nat.reduceLeDiff, Nat.reduceAdd, gvP]
          refine (must_t _ _).mono ?_
          rintro e w6 ⟨rfl, rfl⟩
          simp only [push_cast, Nat.reduceBEq, Nat.reduceLeDiff, Nat.reduceAdd, hB5.c3]
          refine (body_ vh hs' (mkS rest2) 8192 w5 hh5 (by omega) (fun p hp => ⟨by have := (hhs p hp).1; omega, by have := (hhs p hp).2; omega⟩) (by rw [size_mkS]; omega) hG5).mono ?_
          rintro e w6 ⟨hBd, hb6⟩
          rw [toL_mkS] at hBd
          have hs6 := hb6.size
          have hb06 := hb05.trans (hb6.mono hb05.size)
          have hA6 := hA5.step hb6 (by omega)
          have hB6 := hB5.step hb6 (by omega)
          have hq6 := pairsAt_below hq5 hb6
          have hh6 := pairsAt_below hh5 hb6
          cases hbd : bodyS hs' rest2 8192 with
          | error er =>
            rw [hbd] at hBd hS
            simp only [BodyPost, die] at hBd
            subst hBd
            simp only [push_cast, Nat.reduceBEq, Nat.reduceLeDiff, Nat.reduceAdd]
            exact hR _ _ ⟨by rw [hS]; rfl, hb06⟩
          | ok bd =>
            rw [hbd] at hBd hS
            simp only at hS
            obtain ⟨vb, rfl, hvb, b', c', rfl, hbf⟩ := hBd
            have hfb : FreshV (w.heap.size + 2) (.slice (some ⟨b', 0, none⟩) bd.length c') := by show _ ≤ b'; omega
            generalize hvbd : Value.slice (some ⟨b', 0, none⟩) bd.length c' = vb at hvb hfb
            have hvbc : vb.cells = #[vb] ∧ isCell vb = true := by rw [← hvbd]; exact ⟨rfl, rfl⟩
            obtain ⟨hqc, hqi⟩ := cells_of_pairs hq6
            simp only [push_cast, Nat.reduceBEq, Nat.reduceLeDiff, Nat.reduceAdd, hB6.c4, hB6.f, hvbc.1, hvbc.2]
            have hB7 := hB6.set4 vb
            have hA7 : RC (w6.setCell ⟨w.heap.size + 1, 4, none⟩ vb) w.heap.size _ _ _ _ _ := hA6.far (by omega)
            have hh7 : PairsAt (w6.setCell ⟨w.heap.size + 1, 4, none⟩ vb) vh hs' := pairsAt_set hh6 hfh' (by omega)
            have hq7 : PairsAt (w6.setCell ⟨w.heap.size + 1, 4, none⟩ vb) vq q := pairsAt_set hq6 hfq (by omega)
            have hv7 : BytesAt (w6.setCell ⟨w.heap.size + 1, 4, none⟩ vb) vb bd := bytesAt_set hvb hfb (by omega)
            have hb7 : Below w.heap.size w (w6.setCell ⟨w.heap.size + 1, 4, none⟩ vb) := hb06.setCell (p := ⟨w.heap.size + 1, 4, none⟩) (by show w.heap.size ≤ w.heap.size + 1; omega) _
            generalize hw7 : w6.setCell ⟨w.heap.size + 1, 4, none⟩ vb = w7 at hB7 hA7 hh7 hq7 hb7 hv7
            try rw [hw7]
            simp only [push_cast, Nat.reduceBEq, Nat.reduceLeDiff, Nat.reduceAdd, hB6.c0, hB6.c1, hB6.c2, hB6.c3, hA7.c0, hA7.c1, hA7.c2, hA7.c3, hA7.c4, hA7.f, hvbc.1, hvbc.2, hvc, hvi, hqc, hqi]
            have f1 : FreshV (w.heap.size + 1) vq := hfq.mono (by omega)
            have f2 : FreshV (w.heap.size + 1) vh := hfh'.mono (by omega)
            have f3 : FreshV (w.heap.size + 1) vb := hfb.mono (by omega)
            refine hR _ _ ⟨?_, ((((hb7.setCell (p := ⟨w.heap.size, 0, none⟩) (Nat.le_refl _) _).setCell (p := ⟨w.heap.size, 1, none⟩) (Nat.le_refl _) _).setCell (p := ⟨w.heap.size, 2, none⟩) (Nat.le_refl _) _).setCell (p := ⟨w.heap.size, 3, none⟩) (Nat.le_refl _) _).setCell (p := ⟨w.heap.size, 4, none⟩) (Nat.le_refl _) _⟩
            rw [hS]
            refine ⟨vq, vh, vb, rfl, ⟨?_, f1.mono (by omega)⟩, ⟨?_, f2.mono (by omega)⟩, ⟨?_, f3.mono (by omega)⟩⟩
            · exact pairsAt_set (pairsAt_set (pairsAt_set (pairsAt_set (pairsAt_set hq7 f1 (Nat.lt_succ_self _)) f1 (Nat.lt_succ_self _)) f1 (Nat.lt_succ_self _)) f1 (Nat.lt_succ_self _)) f1 (Nat.lt_succ_self _)
            · exact pairsAt_set (pairsAt_set (pairsAt_set (pairsAt_set (pairsAt_set hh7 f2 (Nat.lt_succ_self _)) f2 (Nat.lt_succ_self _)) f2 (Nat.lt_succ_self _)) f2 (Nat.lt_succ_self _)) f2 (Nat.lt_succ_self _)
            · exact bytesAt_set (bytesAt_set (bytesAt_set (bytesAt_set (bytesAt_set hv7 f3 (Nat.lt_succ_self _)) f3 (Nat.lt_succ_self _)) f3 (Nat.lt_succ_self _)) f3 (Nat.lt_succ_self _)) f3 (Nat.lt_succ_self _)
end Go.Proofs.YtciepffocobgpaaGreatDoor
namespace Go.Proofs.YtciepffocobgpaaGreatDoor
open Go Go.Sx Go.RowKit
set_option linter.unusedSimpArgs false
set_option linter.unusedVariables false
def tailP (S : World → Prop) : Post := fun ex _ w => ex = .normal ∧ S w
theorem tailP_n (S : World → Prop) (e : Env) (w : World) : tailP S .normal e w = S w := by simp [tailP]
theorem tail_X {P : Program} {fn : Func} {c : Code} {a : Act} {al : List Value} {w : World} {c₀ c₁ : Frame} {cs : List Frame} {R : Ending → FrameMode → World → Prop} (S : World → Prop) {N : Nat}
    (ha : a.tmps = al.toArray) (hl : al.length = N) (hd : a.defers = []) (hwf : wfC N c = true) (hres : fn.results = #[]) (hc : c₁ = { c₀ with mode := c₁.mode })
    (h : X P N c (tailP S) (env0 al) w) (hR : ∀ w', S w' → R (.returned (.tuple #[])) c₁.mode w') : c.wpS P (bodyPostS P fn c₀ cs R) a (c₁ :: cs) w := by
  refine wpS_of_wp ?_
  have he : envOf a = env0 al := by
    funext n
    simp only [envOf, env0, ha, Array.getD_eq_getD_getElem?, List.getD_eq_getElem?_getD, List.getElem?_toArray]
  have := x_sound c (tailP S) a w hwf (by rw [ha]; simpa using hl) (by rw [he]; exact h)
  refine wp_mono this ?_
  rintro e a' w' ⟨hd', hs, hn, hS⟩
  subst hn
  rw [hd] at hd'
  refine ⟨hd', c₁.mode, by rw [← hc], .tuple #[], ?_, hR w' hS⟩
  unfold results
  rw [hres]; simp [Sem.run]
theorem tmps_eq (a : Act) (N : Nat) (h : a.tmps.size = N) (e : Env) (he : envOf a = e) : a.tmps = ((List.range N).map e).toArray := by
  subst he; subst h
  apply Array.ext'
  apply List.ext_getElem?
  intro i
  by_cases hi : i < a.tmps.size
  · simp [envOf, hi]
  · simp [hi]
theorem ap_eq_iface (P : Program) (t d : TypeId) (g : Bool) (x y : Value) (w : World) (c : Cont) : ap P (.bin .eql t g) [.iface d x, y] w c = getR ((binRun .eql t g (.iface d x) y).run P w) c := Eq.trans rfl rfl
theorem eq83 (er : Int) (w : World) : (binRun .eql 20 true (.iface 83 (.agg #[.int .i64 er])) .nilIface).run Tryz.prog w = .ok (.bool false) w := by kernel_rfl
theorem ta83 (er : Int) (w : World) : Sem.run Tryz.prog (Instr.typeAssert (.iface 83 (.agg #[.int .i64 er])) 20 83 true) w = .ok (.tuple #[.agg #[.int .i64 er], .bool true]) w := by kernel_rfl
def z1W (w : World) (b : Nat) : World := World.setCell w (Addr.mk b 0 none) (Value.string ⟨#[]⟩)
def z2W (w : World) (b : Nat) : World := World.setCell (z1W w b) (Addr.mk b 1 none) (Value.string ⟨#[]⟩)
def z3W (w : World) (b : Nat) : World := World.setCell (z2W w b) (Addr.mk b 2 none) (Value.slice none 0 0)
def z4W (w : World) (b : Nat) : World := World.setCell (z3W w b) (Addr.mk b 3 none) (Value.slice none 0 0)
def z5W (w : World) (b : Nat) : World := World.setCell (z4W w b) (Addr.mk b 4 none) (Value.slice none 0 0)
def z6W (w : World) (b b2 : Nat) (er : Int) : World := World.setCell (z5W w b) (Addr.mk b2 0 none) (Value.int .i64 er)
theorem catch_fin {w w8 : World} {k1 b b2 : Nat} {v0 v1 v2 v3 v4 u : Value} (hb8 : Below k1 w w8) (hk : b ≤ k1) (hR8' : RC w8 b v0 v1 v2 v3 v4) (hc8 : w8.cell? ⟨b2, 0, none⟩ = some u) (hbb : b < b2) (er : Int) :
    Below b w (z6W w8 b b2 er).drew ∧ RC (z6W w8 b b2 er).drew b (.string ⟨#[]⟩) (.string ⟨#[]⟩) (.slice none 0 0) (.slice none 0 0) (.slice none 0 0) ∧ (z6W w8 b b2 er).drew.cell? ⟨b2, 0, none⟩ = some (.int .i64 er) := by
  have n5 : b ≠ b2 := by omega
  have B1 : Below b w (z1W w8 b) := by unfold z1W; exact (hb8.mono hk).setCell (p := Addr.mk b 0 none) (Nat.le_refl _) _
  have B2 : Below b w (z2W w8 b) := by unfold z2W; exact B1.setCell (p := Addr.mk b 1 none) (Nat.le_refl _) _
  have B3 : Below b w (z3W w8 b) := by unfold z3W; exact B2.setCell (p := Addr.mk b 2 none) (Nat.le_refl _) _
  have B4 : Below b w (z4W w8 b) := by unfold z4W; exact B3.setCell (p := Addr.mk b 3 none) (Nat.le_refl _) _
  have B5 : Below b w (z5W w8 b) := by unfold z5W; exact B4.setCell (p := Addr.mk b 4 none) (Nat.le_refl _) _
  have B6 : Below b w (z6W w8 b b2 er) := by unfold z6W; exact B5.setCell (p := Addr.mk b2 0 none) (Nat.le_of_lt hbb) _
  have R1 : RC (z1W w8 b) b (.string ⟨#[]⟩) v1 v2 v3 v4 := by unfold z1W; exact hR8'.set0 _
  have R2 : RC (z2W w8 b) b (.string ⟨#[]⟩) (.string ⟨#[]⟩) v2 v3 v4 := by unfold z2W; exact R1.set1 _
  have R3 : RC (z3W w8 b) b (.string ⟨#[]⟩) (.string ⟨#[]⟩) (.slice none 0 0) v3 v4 := by unfold z3W; exact R2.set2 _
  have R4 : RC (z4W w8 b) b (.string ⟨#[]⟩) (.string ⟨#[]⟩) (.slice none 0 0) (.slice none 0 0) v4 := by unfold z4W; exact R3.set3 _
  have R5 : RC (z5W w8 b) b (.string ⟨#[]⟩) (.string ⟨#[]⟩) (.slice none 0 0) (.slice none 0 0) (.slice none 0 0) := by unfold z5W; exact R4.set4 _
  have R6 : RC (z6W w8 b b2 er) b (.string ⟨#[]⟩) (.string ⟨#[]⟩) (.slice none 0 0) (.slice none 0 0) (.slice none 0 0) := by unfold z6W; exact R5.far (Ne.symm n5)
  have c1 : (z1W w8 b).cell? ⟨b2, 0, none⟩ = some u := by unfold z1W; exact (World.cell?_setCell_far _ (Addr.mk b 0 none) ⟨b2, 0, none⟩ _ n5).trans hc8
  have c2 : (z2W w8 b).cell? ⟨b2, 0, none⟩ = some u := by unfold z2W; exact (World.cell?_setCell_far _ (Addr.mk b 1 none) ⟨b2, 0, none⟩ _ n5).trans c1
  have c3 : (z3W w8 b).cell? ⟨b2, 0, none⟩ = some u := by unfold z3W; exact (World.cell?_setCell_far _ (Addr.mk b 2 none) ⟨b2, 0, none⟩ _ n5).trans c2
  have c4 : (z4W w8 b).cell? ⟨b2, 0, none⟩ = some u := by unfold z4W; exact (World.cell?_setCell_far _ (Addr.mk b 3 none) ⟨b2, 0, none⟩ _ n5).trans c3
  have c5 : (z5W w8 b).cell? ⟨b2, 0, none⟩ = some u := by unfold z5W; exact (World.cell?_setCell_far _ (Addr.mk b 4 none) ⟨b2, 0, none⟩ _ n5).trans c4
  have c6 : (z6W w8 b b2 er).cell? ⟨b2, 0, none⟩ = some (.int .i64 er) := by unfold z6W; rw [sc_cell, c5]; rfl
  clear B1 B2 B3 B4 B5 R1 R2 R3 R4 R5 c1 c2 c3 c4 c5
  generalize z6W w8 b b2 er = w9 at *
  exact ⟨B6.drew, ⟨R6.c0, R6.c1, R6.c2, R6.c3, R6.c4, R6.f⟩, c6⟩
theorem eqnil (w : World) : (binRun .eql 20 true .nilIface .nilIface).run Tryz.prog w = .ok (.bool true) w := by kernel_rfl
theorem ap_eq_nil (P : Program) (t : TypeId) (g : Bool) (y : Value) (w : World) (c : Cont) : ap P (.bin .eql t g) [.nilIface, y] w c = getR ((binRun .eql t g .nilIface y).run P w) c := Eq.trans rfl rfl
set_option maxHeartbeats 1000000 in
theorem catch_die (b b2 : Nat) (er : Int) (older : List PanicEntry) (w : World) (v0 v1 v2 v3 v4 u : Value) (hR : RC w b v0 v1 v2 v3 v4) (hc2 : w.cell? ⟨b2, 0, none⟩ = some u) (hf2 : w.frozen? ⟨b2, 0, none⟩ = false) (hbb : b < b2) (hb2 : b2 < w.heap.size) :
    CallsD Tryz.prog 47 #[.pointer (some ⟨b, 0, none⟩), .pointer (some ⟨b2, 0, none⟩)] (.panicking ({ v := .iface 83 (.agg #[.int .i64 er]), recovered := false } :: older)) w fun e u' w' =>
      e = .returned (.tuple #[]) ∧ u' = .panicking ({ v := .iface 83 (.agg #[.int .i64 er]), recovered := true } :: older) ∧
      (Below b w w' ∧ RC w' b (.string ⟨#[]⟩) (.string ⟨#[]⟩) (.slice none 0 0) (.slice none 0 0) (.slice none 0 0) ∧ w'.cell? ⟨b2, 0, none⟩ = some (.int .i64 er)) := by
  refine callsD_of_wpS Tryz.func47 rfl fun c₀ cs hu => ?_
  apply wpS_seq
  apply wpS_region
  simp [wpOpsS, go_sem, recoverD, hu, Tryz.ntmps47, Exit.thenS]
  refine tail_X (N := 15) (fun w' => (Below b w w' ∧ RC w' b (.string ⟨#[]⟩) (.string ⟨#[]⟩) (.slice none 0 0) (.slice none 0 0) (.slice none 0 0) ∧ w'.cell? ⟨b2, 0, none⟩ = some (.int .i64 er))) (al := [.pointer (some ⟨b, 0, none⟩), .pointer (some ⟨b2, 0, none⟩), undef, undef, undef, undef, .iface 83 (.agg #[.int .i64 er]), undef, undef, undef, undef, undef, undef, undef, undef]) rfl rfl rfl (by kernel_rfl) rfl rfl ?_ ?_
  · generalize hS : (fun w' => (Below b w w' ∧ RC w' b (.string ⟨#[]⟩) (.string ⟨#[]⟩) (.slice none 0 0) (.slice none 0 0) (.slice none 0 0) ∧ w'.cell? ⟨b2, 0, none⟩ = some (.int .i64 er))) = S
    simp only [push_cast, Nat.reduceBEq, Nat.reduceLeDiff, Nat.reduceAdd, tailP_n, ap_eq_iface, eq83, ta83]
    intro hwf a hs he
    have ht := tmps_eq a 15 hs _ he
    obtain ⟨tm, df⟩ := a
    simp only [List.range, List.range.loop, List.map_cons, List.map_nil, push_cast, Nat.reduceBEq, Nat.reduceLeDiff, Nat.reduceAdd] at ht
    subst ht
    clear he hs hwf hu
    generalize hQ : lift 15 _ _ = Q
    have hQ' : ∀ tm' w', tm'.size = 15 → S w' → Q .normal ⟨tm', df⟩ w' := by
      intro tm' w' h1 h2
      rw [← hQ]
      exact ⟨rfl, h1, by simp only [push_cast, tailP_n]; exact h2⟩
    clear hQ
    have hlt : b < w.heap.size := by omega
    have e1 : (al w [([Value.int IntKind.i64 er], 83), ([.string ⟨#[]⟩, .string ⟨#[]⟩, .slice none 0 0, .slice none 0 0, .slice none 0 0], 27)]).cell? ⟨w.heap.size, 0, none⟩ = some (.int .i64 er) := al_cell0 ..
    have z0 : (al w [([Value.int IntKind.i64 er], 83), ([.string ⟨#[]⟩, .string ⟨#[]⟩, .slice none 0 0, .slice none 0 0, .slice none 0 0], 27)]).cell? ⟨w.heap.size + 1, 0, none⟩ = some (.string ⟨#[]⟩) := al_cell ..
    have z1 : (al w [([Value.int IntKind.i64 er], 83), ([.string ⟨#[]⟩, .string ⟨#[]⟩, .slice none 0 0, .slice none 0 0, .slice none 0 0], 27)]).cell? ⟨w.heap.size + 1, 1, none⟩ = some (.string ⟨#[]⟩) := al_cell ..
    have z2 : (al w [([Value.int IntKind.i64 er], 83), ([.string ⟨#[]⟩, .string ⟨#[]⟩, .slice none 0 0, .slice none 0 0, .slice none 0 0], 27)]).cell? ⟨w.heap.size + 1, 2, none⟩ = some (.slice none 0 0) := al_cell ..
    have z3 : (al w [([Value.int IntKind.i64 er], 83), ([.string ⟨#[]⟩, .string ⟨#[]⟩, .slice none 0 0, .slice none 0 0, .slice none 0 0], 27)]).cell? ⟨w.heap.size + 1, 3, none⟩ = some (.slice none 0 0) := al_cell ..
    have z4 : (al w [([Value.int IntKind.i64 er], 83), ([.string ⟨#[]⟩, .string ⟨#[]⟩, .slice none 0 0, .slice none 0 0, .slice none 0 0], 27)]).cell? ⟨w.heap.size + 1, 4, none⟩ = some (.slice none 0 0) := al_cell ..
    have hR8 := hR.step (al_below w [([Value.int IntKind.i64 er], 83), ([.string ⟨#[]⟩, .string ⟨#[]⟩, .slice none 0 0, .slice none 0 0, .slice none 0 0], 27)]) hlt
    have hc8 := ((al_below w [([Value.int IntKind.i64 er], 83), ([.string ⟨#[]⟩, .string ⟨#[]⟩, .slice none 0 0, .slice none 0 0, .slice none 0 0], 27)]).cell (p := ⟨b2, 0, none⟩) hb2).trans hc2
    have hf8 := ((al_below w [([Value.int IntKind.i64 er], 83), ([.string ⟨#[]⟩, .string ⟨#[]⟩, .slice none 0 0, .slice none 0 0, .slice none 0 0], 27)]).frozen (p := ⟨b2, 0, none⟩) hb2).trans hf2
    have hb8 := al_below w [([Value.int IntKind.i64 er], 83), ([.string ⟨#[]⟩, .string ⟨#[]⟩, .slice none 0 0, .slice none 0 0, .slice none 0 0], 27)]
    generalize al w [([Value.int IntKind.i64 er], 83), ([.string ⟨#[]⟩, .string ⟨#[]⟩, .slice none 0 0, .slice none 0 0, .slice none 0 0], 27)] = w8 at e1 z0 z1 z2 z3 z4 hR8 hc8 hf8 hb8 ⊢
    obtain ⟨y0, y1, y2, y3, y4, yf⟩ := hR8
    have g0 := yf 0
    have g1 := yf 1
    have g2 := yf 2
    have g3 := yf 3
    have g4 := yf 4
    have n1 : b ≠ w.heap.size := by omega
    have n2 : b ≠ w.heap.size + 1 := by omega
    have n3 : b2 ≠ w.heap.size := by omega
    have n4 : b2 ≠ w.heap.size + 1 := by omega
    have n5 : b ≠ b2 := by omega
    generalize w.heap.size = k1 at *
    generalize k1 + 1 = k2 at *
    clear hc2 hf2 hR
    have hfin := catch_fin hb8 (show b ≤ k1 by omega) ⟨y0, y1, y2, y3, y4, yf⟩ hc8 hbb er
    have hfin2 : S (z6W w8 b b2 er).drew := by rw [← hS]; exact hfin
    clear hS hfin yf
    go_region
    exact hQ' _ _ rfl hfin2
  · rintro w' h
    exact ⟨rfl, rfl, h⟩
theorem catch_idle (b b2 : Nat) (w : World) :
    CallsD Tryz.prog 47 #[.pointer (some ⟨b, 0, none⟩), .pointer (some ⟨b2, 0, none⟩)] .returning w fun e u' w' => e = .returned (.tuple #[]) ∧ u' = .returning ∧ w' = w := by
  refine callsD_of_wpS Tryz.func47 rfl fun c₀ cs hu => ?_
  apply wpS_seq
  apply wpS_region
  simp [wpOpsS, go_sem, recoverD, hu, Tryz.ntmps47, Exit.thenS]
  refine tail_X (N := 15) (fun w' => w' = w) (al := [.pointer (some ⟨b, 0, none⟩), .pointer (some ⟨b2, 0, none⟩), undef, undef, undef, undef, .nilIface, undef, undef, undef, undef, undef, undef, undef, undef]) rfl rfl rfl (by kernel_rfl) rfl rfl ?_ ?_
  · simp only [push_cast, Nat.reduceBEq, Nat.reduceLeDiff, Nat.reduceAdd, tailP_n, ap_eq_nil, eqnil]
  · rintro w' rfl
    exact ⟨rfl, hu, rfl⟩
end Go.Proofs.YtciepffocobgpaaGreatDoor
namespace Go.Proofs.YtciepffocobgpaaGreatDoor
open Go Go.Sx Go.RowKit
set_option linter.unusedSimpArgs false
set_option linter.unusedVariables false
def tailE (S : Env → World → Prop) : Post := fun ex e w => ex = .normal ∧ S e w
theorem tailE_n (S : Env → World → Prop) (e : Env) (w : World) : tailE S .normal e w = S e w := by simp [tailE]
def CaughtPost (o : Except Int Req) (e : Ending) (w w' : World) : Prop :=
  match o with
  | .ok r => ∃ vq vh vb, e = .returned (.tuple #[.agg #[.string (mkS r.method), .string (mkS r.path), vq, vh, vb], .int .i64 0]) ∧ (PairsAt w' vq r.query ∧ FreshV w.heap.size vq) ∧ (PairsAt w' vh r.hdrs ∧ FreshV w.heap.size vh) ∧ (BytesAt w' vb r.body ∧ FreshV w.heap.size vb)
  | .error er => e = .returned (.tuple #[.agg #[.string ⟨#[]⟩, .string ⟨#[]⟩, .slice none 0 0, .slice none 0 0, .slice none 0 0], .int .i64 er])
theorem wp_seq_X {P : Program} {N : Nat} {x y : Code} {Q : Exit → Act → World → Prop} {a : Act} {w : World} {al : List Value} (ha : a.tmps = al.toArray) (hl : al.length = N) (hwf : wfC N x = true)
    (h : X P N x (tailE (fun e w' => ∀ a', a'.defers = a.defers → a'.tmps.size = N → envOf a' = e → y.wp P Q a' w')) (env0 al) w) : (x.seq y).wp P Q a w := by
  have he : envOf a = env0 al := by
    funext n
    simp only [envOf, env0, ha, Array.getD_eq_getD_getElem?, List.getD_eq_getElem?_getD, List.getElem?_toArray]
  have := x_sound x _ a w hwf (by rw [ha]; simpa using hl) (by rw [he]; exact h)
  refine wp_seq (wp_mono this ?_)
  rintro e a' w' ⟨hd', hs, hn, hS⟩
  subst hn
  exact hS a' hd' hs rfl
theorem envOf_lit (al : List Value) (ds : List Deferred) : envOf ⟨al.toArray, ds⟩ = env0 al := by
  funext n
  simp only [envOf, env0, Array.getD_eq_getD_getElem?, List.getD_eq_getElem?_getD, List.getElem?_toArray]
def capE (b : Nat) (Sok : World → Prop) (Sdie : Int → World → Prop) : Post := fun ex e w => match ex with
  | .ret => (e 4 = .pointer (some ⟨b, 0, none⟩) ∧ e 5 = .pointer (some ⟨b + 1, 0, none⟩)) ∧ Sok w
  | .panic ch => ∃ er, ch = [{ v := .iface 83 (.agg #[.int .i64 er]), recovered := false }] ∧ (e 4 = .pointer (some ⟨b, 0, none⟩) ∧ e 5 = .pointer (some ⟨b + 1, 0, none⟩)) ∧ Sdie er w
  | _ => False
theorem capE_r (b : Nat) (Sok : World → Prop) (Sdie : Int → World → Prop) (e : Env) (w : World) : capE b Sok Sdie .ret e w = ((e 4 = .pointer (some ⟨b, 0, none⟩) ∧ e 5 = .pointer (some ⟨b + 1, 0, none⟩)) ∧ Sok w) := Eq.trans rfl rfl
theorem capE_p (b : Nat) (Sok : World → Prop) (Sdie : Int → World → Prop) (e : Env) (w : World) (er : Int) : capE b Sok Sdie (.panic [{ v := .iface 83 (.agg #[.int .i64 er]), recovered := false }]) e w = ∃ er', [({ v := .iface 83 (.agg #[.int .i64 er]), recovered := false } : PanicEntry)] = [{ v := .iface 83 (.agg #[.int .i64 er']), recovered := false }] ∧ (e 4 = .pointer (some ⟨b, 0, none⟩) ∧ e 5 = .pointer (some ⟨b + 1, 0, none⟩)) ∧ Sdie er' w := Eq.trans rfl rfl
def g1W (w : World) (b : Nat) (v : Value) : World := World.setCell w (Addr.mk b 0 none) v
def g2W (w : World) (b : Nat) (v0 v : Value) : World := World.setCell (g1W w b v0) (Addr.mk b 1 none) v
def g3W (w : World) (b : Nat) (v0 v1 v : Value) : World := World.setCell (g2W w b v0 v1) (Addr.mk b 2 none) v
def g4W (w : World) (b : Nat) (v0 v1 v2 v : Value) : World := World.setCell (g3W w b v0 v1 v2) (Addr.mk b 3 none) v
def g5W (w : World) (b : Nat) (v0 v1 v2 v3 v : Value) : World := World.setCell (g4W w b v0 v1 v2 v3) (Addr.mk b 4 none) v
def g6W (w : World) (b : Nat) (v0 v1 v2 v3 v4 : Value) : World := World.setCell (g5W w b v0 v1 v2 v3 v4) (Addr.mk (b + 1) 0 none) (Value.int .i64 0)
theorem five {w1 : World} {b : Nat} {x0 x1 x2 x3 x4 u : Value} (v0 v1 v2 v3 v4 : Value) (hR : RC w1 b x0 x1 x2 x3 x4) (hc : w1.cell? ⟨b + 1, 0, none⟩ = some u) :
    RC (g6W w1 b v0 v1 v2 v3 v4) b v0 v1 v2 v3 v4 ∧ (g5W w1 b v0 v1 v2 v3 v4).cell? ⟨b + 1, 0, none⟩ = some u ∧ (g6W w1 b v0 v1 v2 v3 v4).cell? ⟨b + 1, 0, none⟩ = some (.int .i64 0) ∧
    (∀ k, k ≠ b → k ≠ b + 1 → (g6W w1 b v0 v1 v2 v3 v4).heap[k]? = w1.heap[k]?) ∧ (g6W w1 b v0 v1 v2 v3 v4).heap.size = w1.heap.size ∧ Below b w1 (g6W w1 b v0 v1 v2 v3 v4) := by
  have n5 : b ≠ b + 1 := by omega
  have R1 : RC (g1W w1 b v0) b v0 x1 x2 x3 x4 := by unfold g1W; exact hR.set0 _
  have R2 : RC (g2W w1 b v0 v1) b v0 v1 x2 x3 x4 := by unfold g2W; exact R1.set1 _
  have R3 : RC (g3W w1 b v0 v1 v2) b v0 v1 v2 x3 x4 := by unfold g3W; exact R2.set2 _
  have R4 : RC (g4W w1 b v0 v1 v2 v3) b v0 v1 v2 v3 x4 := by unfold g4W; exact R3.set3 _
  have R5 : RC (g5W w1 b v0 v1 v2 v3 v4) b v0 v1 v2 v3 v4 := by unfold g5W; exact R4.set4 _
  have R6 : RC (g6W w1 b v0 v1 v2 v3 v4) b v0 v1 v2 v3 v4 := by unfold g6W; exact R5.far (by omega)
  have c1 : (g1W w1 b v0).cell? ⟨b + 1, 0, none⟩ = some u := by unfold g1W; exact (World.cell?_setCell_far _ (Addr.mk b 0 none) ⟨b + 1, 0, none⟩ _ n5).trans hc
  have c2 : (g2W w1 b v0 v1).cell? ⟨b + 1, 0, none⟩ = some u := by unfold g2W; exact (World.cell?_setCell_far _ (Addr.mk b 1 none) ⟨b + 1, 0, none⟩ _ n5).trans c1
  have c3 : (g3W w1 b v0 v1 v2).cell? ⟨b + 1, 0, none⟩ = some u := by unfold g3W; exact (World.cell?_setCell_far _ (Addr.mk b 2 none) ⟨b + 1, 0, none⟩ _ n5).trans c2
  have c4 : (g4W w1 b v0 v1 v2 v3).cell? ⟨b + 1, 0, none⟩ = some u := by unfold g4W; exact (World.cell?_setCell_far _ (Addr.mk b 3 none) ⟨b + 1, 0, none⟩ _ n5).trans c3
  have c5 : (g5W w1 b v0 v1 v2 v3 v4).cell? ⟨b + 1, 0, none⟩ = some u := by unfold g5W; exact (World.cell?_setCell_far _ (Addr.mk b 4 none) ⟨b + 1, 0, none⟩ _ n5).trans c4
  have c6 : (g6W w1 b v0 v1 v2 v3 v4).cell? ⟨b + 1, 0, none⟩ = some (.int .i64 0) := by unfold g6W; rw [sc_cell, c5]; rfl
  have hh : ∀ k, k ≠ b → k ≠ b + 1 → (g6W w1 b v0 v1 v2 v3 v4).heap[k]? = w1.heap[k]? := by
    intro k h1 h2
    unfold g6W g5W g4W g3W g2W g1W
    rw [Below.heap_setCell _ _ _ _ h2, Below.heap_setCell _ _ _ _ h1, Below.heap_setCell _ _ _ _ h1, Below.heap_setCell _ _ _ _ h1, Below.heap_setCell _ _ _ _ h1, Below.heap_setCell _ _ _ _ h1]
  have hs : (g6W w1 b v0 v1 v2 v3 v4).heap.size = w1.heap.size := by
    unfold g6W g5W g4W g3W g2W g1W
    rw [sc_size, sc_size, sc_size, sc_size, sc_size, sc_size]
  refine ⟨R6, c5, c6, hh, hs, ?_⟩
  have B1 : Below b w1 (g1W w1 b v0) := by unfold g1W; exact (Below.refl _ _).setCell (p := Addr.mk b 0 none) (Nat.le_refl _) _
  have B2 : Below b w1 (g2W w1 b v0 v1) := by unfold g2W; exact B1.setCell (p := Addr.mk b 1 none) (Nat.le_refl _) _
  have B3 : Below b w1 (g3W w1 b v0 v1 v2) := by unfold g3W; exact B2.setCell (p := Addr.mk b 2 none) (Nat.le_refl _) _
  have B4 : Below b w1 (g4W w1 b v0 v1 v2 v3) := by unfold g4W; exact B3.setCell (p := Addr.mk b 3 none) (Nat.le_refl _) _
  have B5 : Below b w1 (g5W w1 b v0 v1 v2 v3 v4) := by unfold g5W; exact B4.setCell (p := Addr.mk b 4 none) (Nat.le_refl _) _
  unfold g6W; exact B5.setCell (p := Addr.mk (b + 1) 0 none) (Nat.le_succ _) _
def Cl (v : Value) : Prop := v.cells = #[v] ∧ isCell v = true
set_option maxHeartbeats 2000000 in
theorem caught_gen (f : FuncId) (hf : hasBody Tryz.prog f = true) (s : ByteArray) (w : World) (Post : Ending → World → Prop)
    (hcall : ∀ w0, Below w.heap.size w w0 → w0.heap.size = w.heap.size + 2 → Calls Tryz.prog f #[.string s] w0 fun e w1 => Below w0.heap.size w0 w1 ∧
      ((∃ v0 v1 v2 v3 v4, e = .returned (.agg #[v0, v1, v2, v3, v4]) ∧ (Cl v0 ∧ Cl v1 ∧ Cl v2 ∧ Cl v3 ∧ Cl v4) ∧ ∀ w', w1.heap.size ≤ w'.heap.size → Below w.heap.size w w' → (∀ k, k ≠ w.heap.size → k ≠ w.heap.size + 1 → w'.heap[k]? = w1.heap[k]?) → Post (.returned (.tuple #[.agg #[v0, v1, v2, v3, v4], .int .i64 0])) w') ∨
       (∃ er, e = die er ∧ ∀ w', Below w.heap.size w w' → Post (.returned (.tuple #[.agg #[.string ⟨#[]⟩, .string ⟨#[]⟩, .slice none 0 0, .slice none 0 0, .slice none 0 0], .int .i64 er])) w'))) :
    Calls Tryz.prog 23 #[.func (.func f) #[] #[], .string s] w Post := by
  have hmf : ∀ (fn : Fn) (first cap : Array Value) (w : World), (Instr.makeFunc fn first cap).run Tryz.prog w = .ok (.func fn first cap) w := fun _ _ _ _ => rfl
  refine calls_of_wp_defers Tryz.func23 rfl ?_
  refine wp_seq_X (N := 10) (al := [.func (.func f) #[] #[], .string s, undef, undef, undef, undef, undef, undef, undef, undef]) rfl rfl (by kernel_rfl) ?_
  simp only [push_cast, Nat.reduceBEq, Nat.reduceLeDiff, Nat.reduceAdd, tailE_n]
  rintro ⟨tm, df⟩ hd hs he
  have ht := tmps_eq _ 10 hs _ he
  simp only [List.range, List.range.loop, List.map_cons, List.map_nil, push_cast, Nat.reduceBEq, Nat.reduceLeDiff, Nat.reduceAdd] at ht
  simp only at hd
  subst ht hd
  clear hs he
  refine wp_seq (wp_region ?_)
  simp [wpOps, go_sem]
  refine .inl (.inl ?_)
  have hb0 := al_below w [([Value.string ⟨#[]⟩, .string ⟨#[]⟩, .slice none 0 0, .slice none 0 0, .slice none 0 0], 27), ([.int .i64 0], 28)]
  have hs0 : (al w [([Value.string ⟨#[]⟩, .string ⟨#[]⟩, .slice none 0 0, .slice none 0 0, .slice none 0 0], 27), ([.int .i64 0], 28)]).heap.size = w.heap.size + 2 := by rw [al_size]; rfl
  have hA : RC (al w [([Value.string ⟨#[]⟩, .string ⟨#[]⟩, .slice none 0 0, .slice none 0 0, .slice none 0 0], 27), ([.int .i64 0], 28)]) w.heap.size (.string ⟨#[]⟩) (.string ⟨#[]⟩) (.slice none 0 0) (.slice none 0 0) (.slice none 0 0) :=
    ⟨al_cell0 .., al_cell0 .., al_cell0 .., al_cell0 .., al_cell0 .., fun i => al_frz0 ..⟩
  have hE : (al w [([Value.string ⟨#[]⟩, .string ⟨#[]⟩, .slice none 0 0, .slice none 0 0, .slice none 0 0], 27), ([.int .i64 0], 28)]).cell? ⟨w.heap.size + 1, 0, none⟩ = some (.int .i64 0) := al_cell ..
  have hEf : (al w [([Value.string ⟨#[]⟩, .string ⟨#[]⟩, .slice none 0 0, .slice none 0 0, .slice none 0 0], 27), ([.int .i64 0], 28)]).frozen? ⟨w.heap.size + 1, 0, none⟩ = false := al_frz ..
  generalize al w [([Value.string ⟨#[]⟩, .string ⟨#[]⟩, .slice none 0 0, .slice none 0 0, .slice none 0 0], 27), ([.int .i64 0], 28)] = w0 at hb0 hs0 hA hE hEf ⊢
  have hc := hcall w0 hb0 hs0
  generalize hbk : w.heap.size = b at *
  let Sok : World → Prop := fun w' => ∃ v0 v1 v2 v3 v4, RC w' b v0 v1 v2 v3 v4 ∧ w'.cell? ⟨b + 1, 0, none⟩ = some (.int .i64 0) ∧ Post (.returned (.tuple #[.agg #[v0, v1, v2, v3, v4], .int .i64 0])) w'
  let Sdie : Int → World → Prop := fun er w' => Below b w w' ∧ b + 2 ≤ w'.heap.size ∧ RC w' b (.string ⟨#[]⟩) (.string ⟨#[]⟩) (.slice none 0 0) (.slice none 0 0) (.slice none 0 0) ∧ w'.cell? ⟨b + 1, 0, none⟩ = some (.int .i64 0) ∧ w'.frozen? ⟨b + 1, 0, none⟩ = false ∧ ∀ w'', Below b w w'' → Post (.returned (.tuple #[.agg #[.string ⟨#[]⟩, .string ⟨#[]⟩, .slice none 0 0, .slice none 0 0, .slice none 0 0], .int .i64 er])) w''
  refine wp_mono (x_sound (N := 10) _ (capE b Sok Sdie) _ _ (by kernel_rfl) rfl ?_) ?_
  · generalize hSok : Sok = S1
    generalize hSdie : Sdie = S2
    rw [envOf_lit]
    simp only [push_cast, Nat.reduceBEq, Nat.reduceLeDiff, Nat.reduceAdd, hf]
    refine hc.mono ?_
    rintro e w1 ⟨hb1, hcase⟩
    have hA1 := hA.step hb1 (by omega)
    have hE1 := (hb1.cell (p := ⟨b + 1, 0, none⟩) (by show b + 1 < _; omega)).trans hE
    have hEf1 := (hb1.frozen (p := ⟨b + 1, 0, none⟩) (by show b + 1 < _; omega)).trans hEf
    have hs1 := hb1.size
    rcases hcase with ⟨v0, v1, v2, v3, v4, rfl, hcl, hP⟩ | ⟨er, rfl, hP⟩
    · obtain ⟨⟨a0, b0⟩, ⟨a1, b1⟩, ⟨a2, b2⟩, ⟨a3, b3⟩, ⟨a4, b4⟩⟩ := hcl
      simp only [push_cast, Nat.reduceBEq, Nat.reduceLeDiff, Nat.reduceAdd, a0, a1, a2, a3, a4, b0, b1, b2, b3, b4, hA1.c0, hA1.c1, hA1.c2, hA1.c3, hA1.c4, hA1.f]
      obtain ⟨hRf, hcf, hcf2, hhf, hsf, hbf⟩ := five v0 v1 v2 v3 v4 hA1 hE1
      refine ⟨?_, hEf1, ?_⟩
      · have : ((g5W w1 b v0 v1 v2 v3 v4).cell? ⟨b + 1, 0, none⟩).isSome = true := by rw [hcf]; rfl
        exact this
      · rw [capE_r, ← hSok]
        have hb6 : Below b w (g6W w1 b v0 v1 v2 v3 v4) := (hb0.trans (hb1.mono (by omega))).trans hbf
        have hfin := hP (g6W w1 b v0 v1 v2 v3 v4) (by omega) hb6 hhf
        exact ⟨⟨rfl, rfl⟩, v0, v1, v2, v3, v4, hRf, hcf2, hfin⟩
    · simp only [die]
      simp only [push_cast, Nat.reduceBEq, Nat.reduceLeDiff, Nat.reduceAdd]
      rw [← hSdie]
      refine ⟨er, rfl, ⟨rfl, rfl⟩, ?_⟩
      exact ⟨hb0.trans (hb1.mono (by omega)), by omega, hA1, hE1, hEf1, hP⟩
  · rintro ex a' w' ⟨hd, hsz, hq⟩
    cases ex with
    | ret =>
      obtain ⟨⟨h4, h5⟩, v0, v1, v2, v3, v4, hR', hc', hPost⟩ := hq
      show Leaves _ _ _ _ a'.defers .returning w'
      rw [hd]
      refine leaves_cons (f := 47) (args := #[.pointer (some ⟨b, 0, none⟩), .pointer (some ⟨b + 1, 0, none⟩)]) (by simp) (by simp [go_sem]) ?_
      refine (catch_idle b (b + 1) w').mono ?_
      rintro e u' w'' ⟨rfl, rfl, rfl⟩
      have hres : resX Tryz.prog (envOf a') w'' Tryz.f23.results.toList (fun vs => Post (.returned (tupleOf vs)) w'') := by
        show resX Tryz.prog (envOf a') w'' [.cell 4 27, .cell 5 28] _
        simp only [push_cast, h4, h5, hR'.c0, hR'.c1, hR'.c2, hR'.c3, hR'.c4, hc']
        exact hPost
      obtain ⟨vs, h1, h2⟩ := res_run hres
      exact ⟨_, h1, h2⟩
    | panic ch =>
      obtain ⟨er, rfl, ⟨h4, h5⟩, hbw, hsz2, hR', hc', hf', hPost⟩ := hq
      show Leaves _ _ _ _ a'.defers (.panicking _) w'
      rw [hd]
      refine leaves_cons (f := 47) (args := #[.pointer (some ⟨b, 0, none⟩), .pointer (some ⟨b + 1, 0, none⟩)]) (by simp) (by simp [go_sem]) ?_
      refine (catch_die b (b + 1) er [] w' _ _ _ _ _ _ hR' hc' hf' (by omega) (by omega)).mono ?_
      rintro e u' w'' ⟨rfl, rfl, hb2, hR2, hc2⟩
      have hres : resX Tryz.prog (envOf a') w'' Tryz.f23.results.toList (fun vs => Post (.returned (tupleOf vs)) w'') := by
        show resX Tryz.prog (envOf a') w'' [.cell 4 27, .cell 5 28] _
        simp only [push_cast, h4, h5, hR2.c0, hR2.c1, hR2.c2, hR2.c3, hR2.c4, hc2]
        exact hPost _ (hbw.trans hb2)
      obtain ⟨vs, h1, h2⟩ := res_run hres
      exact ⟨_, h1, h2⟩
    | normal => exact hq.elim
    | exit i => exact hq.elim
    | goto i => exact hq.elim
    | outgrown => exact hq.elim
end Go.Proofs.YtciepffocobgpaaGreatDoor
namespace Go.Proofs.YtciepffocobgpaaGreatDoor
open Go Go.Sx Go.RowKit
set_option linter.unusedSimpArgs false
set_option linter.unusedVariables false
theorem pairsAt_heap {w w' : World} {v : Value} {ps : List Pr} {B : Nat} (h : PairsAt w v ps) (hf : FreshV B v) (hh : ∀ k, B ≤ k → w'.heap[k]? = w.heap[k]?) (hs : w.heap.size ≤ w'.heap.size) : PairsAt w' v ps := by
  rcases h with h | ⟨b1, o, c, rfl, h2, h3⟩
  · exact .inl h
  · have hB : B ≤ b1 := hf
    exact .inr ⟨b1, o, c, rfl, by omega, fun j p hj => ⟨(World.cell?_of_block (hh b1 hB)).trans (h3 j p hj).1, (World.cell?_of_block (hh b1 hB)).trans (h3 j p hj).2⟩⟩
theorem bytesAt_heap {w w' : World} {v : Value} {l : Bytes} {B : Nat} (h : BytesAt w v l) (hf : FreshV B v) (hh : ∀ k, B ≤ k → w'.heap[k]? = w.heap[k]?) (hs : w.heap.size ≤ w'.heap.size) : BytesAt w' v l := by
  rcases h with h | ⟨b1, o, c, rfl, h2, h3⟩
  · exact .inl h
  · have hB : B ≤ b1 := hf
    exact .inr ⟨b1, o, c, rfl, by omega, fun j p hj => (World.cell?_of_block (hh b1 hB)).trans (h3 j p hj)⟩
theorem cl_str (s : ByteArray) : Cl (.string s) := ⟨rfl, rfl⟩
theorem cl_pairs {w : World} {v : Value} {ps : List Pr} (h : PairsAt w v ps) : Cl v := cells_of_pairs h
theorem cl_bytes {w : World} {v : Value} {l : Bytes} (h : BytesAt w v l) : Cl v := by
  rcases h with ⟨A, c, rfl, _⟩ | ⟨b, o, c, rfl, _⟩ <;> exact ⟨rfl, rfl⟩
theorem caught_req (s : ByteArray) (w : World) (hG : G w) :
    Calls Tryz.prog 23 #[.func (.func 24) #[] #[], .string s] w fun e w' => CaughtPost (reqS (toL s)) e w w' ∧ Below w.heap.size w w' := by
  refine caught_gen 24 (by kernel_rfl) s w _ fun w0 hb0 hs0 => ?_
  refine (request_ s w0 (hG.step hb0 hG.size)).mono ?_
  rintro e w1 ⟨hP, hb1⟩
  refine ⟨hb1, ?_⟩
  have hs1 := hb1.size
  cases hr : reqS (toL s) with
  | error er =>
    rw [hr] at hP
    exact .inr ⟨er, hP, fun w' hb => ⟨rfl, hb⟩⟩
  | ok r =>
    rw [hr] at hP
    obtain ⟨vq, vh, vb, rfl, ⟨hq, hqf⟩, ⟨hh, hhf⟩, ⟨hb, hbf⟩⟩ := hP
    refine .inl ⟨_, _, vq, vh, vb, rfl, ⟨cl_str _, cl_str _, cl_pairs hq, cl_pairs hh, cl_bytes hb⟩, fun w' h1 h2 h3 => ⟨?_, h2⟩⟩
    have hk : ∀ k, w0.heap.size ≤ k → w'.heap[k]? = w1.heap[k]? := fun k hk => h3 k (by omega) (by omega)
    exact ⟨vq, vh, vb, rfl, ⟨pairsAt_heap hq hqf hk h1, hqf.mono (by omega)⟩, ⟨pairsAt_heap hh hhf hk h1, hhf.mono (by omega)⟩, ⟨bytesAt_heap hb hbf hk h1, hbf.mono (by omega)⟩⟩
theorem nums_mkS (l : Bytes) : strOfNums (l.map fun c => (c.toNat : Int)) = mkS l := by
  unfold strOfNums mkS
  congr 1
  rw [List.map_map]
  congr 1
  conv => rhs; rw [← List.map_id l]
  apply List.map_congr_left
  intro c _
  simp
theorem conv_zero (A : Option Addr) (c : Nat) (w : World) : Sem.run Tryz.prog (convert 22 9 (.slice A 0 c)) w = .ok (.string ⟨#[]⟩) w := by
  cases A <;> kernel_rfl
theorem conv_back {w : World} {v : Value} {l : Bytes} (h : BytesAt w v l) : Sem.run Tryz.prog (convert 22 9 v) w = .ok (.string (mkS l)) w := by
  rcases h with ⟨A, c, rfl, rfl⟩ | ⟨b, o, c, rfl, h2, h3⟩
  · exact conv_zero A c w
  · rw [run_convert_bytes_arg w 22 5 Tryz.underlying22 Tryz.underlying5 b o l.length c (l.map fun c => (c.toNat : Int)) (by simp) (fun i hi => ?_) 9 Tryz.underlying9, nums_mkS]
    rw [h3 i _ (List.getElem?_eq_getElem hi), List.getD, List.getElem?_map, List.getElem?_eq_getElem hi]; rfl
theorem Parse_ (v : Value) (l : Bytes) (w : World) (hG : G w) (hv : BytesAt w v l) :
    Calls Tryz.prog 10 #[v] w fun e w' => CaughtPost (reqS l) e w w' ∧ Below w.heap.size w w' := by
  obtain ⟨A, c, rfl, hcells⟩ := bytesAt_shape hv
  refine calls_X Tryz.func10 rfl Tryz.ntmps10 Tryz.results10 rfl rfl (by kernel_rfl) fun R hR => ?_
  simp only [push_cast, Nat.reduceBEq, Nat.reduceLeDiff, Nat.reduceAdd]
  have hb0 := al_below w [([Value.string ⟨#[]⟩, .string ⟨#[]⟩, .slice none 0 0, .slice none 0 0, .slice none 0 0], 27)]
  have hs0 : (al w [([Value.string ⟨#[]⟩, .string ⟨#[]⟩, .slice none 0 0, .slice none 0 0, .slice none 0 0], 27)]).heap.size = w.heap.size + 1 := by rw [al_size]; rfl
  have hA : RC (al w [([Value.string ⟨#[]⟩, .string ⟨#[]⟩, .slice none 0 0, .slice none 0 0, .slice none 0 0], 27)]) w.heap.size (.string ⟨#[]⟩) (.string ⟨#[]⟩) (.slice none 0 0) (.slice none 0 0) (.slice none 0 0) :=
    ⟨al_cell0 .., al_cell0 .., al_cell0 .., al_cell0 .., al_cell0 .., fun i => al_frz0 ..⟩
  generalize al w [([Value.string ⟨#[]⟩, .string ⟨#[]⟩, .slice none 0 0, .slice none 0 0, .slice none 0 0], 27)] = w0 at hb0 hs0 hA ⊢
  simp only [push_cast, conv_back (bytesAt_below hv hb0)]
  refine (caught_req (mkS l) w0 (hG.step hb0 hG.size)).mono ?_
  rintro e w1 ⟨hP, hb1⟩
  rw [toL_mkS] at hP
  have hs1 := hb1.size
  have hA1 := hA.step hb1 (by omega)
  have hb01 := hb0.trans (hb1.mono hb0.size)
  cases hr : reqS l with
  | error er =>
    rw [hr] at hP
    simp only [CaughtPost] at hP
    subst hP
    simp only [push_cast, Nat.reduceBEq, Nat.reduceLeDiff, Nat.reduceAdd, hA1.c0, hA1.c1, hA1.c2, hA1.c3, hA1.c4, hA1.f]
    exact hR _ _ ⟨by rw [hr]; rfl, ((((hb01.setCell (p := ⟨w.heap.size, 0, none⟩) (Nat.le_refl _) _).setCell (p := ⟨w.heap.size, 1, none⟩) (Nat.le_refl _) _).setCell (p := ⟨w.heap.size, 2, none⟩) (Nat.le_refl _) _).setCell (p := ⟨w.heap.size, 3, none⟩) (Nat.le_refl _) _).setCell (p := ⟨w.heap.size, 4, none⟩) (Nat.le_refl _) _⟩
  | ok r =>
    rw [hr] at hP
    obtain ⟨vq, vh, vb, rfl, ⟨hq, hqf⟩, ⟨hh, hhf⟩, ⟨hb, hbf⟩⟩ := hP
    obtain ⟨q1, q2⟩ := cl_pairs hq
    obtain ⟨h1, h2⟩ := cl_pairs hh
    obtain ⟨b1, b2⟩ := cl_bytes hb
    simp only [push_cast, Nat.reduceBEq, Nat.reduceLeDiff, Nat.reduceAdd, hA1.c0, hA1.c1, hA1.c2, hA1.c3, hA1.c4, hA1.f, q1, q2, h1, h2, b1, b2]
    have f1 : FreshV (w.heap.size + 1) vq := hqf.mono (by omega)
    have f2 : FreshV (w.heap.size + 1) vh := hhf.mono (by omega)
    have f3 : FreshV (w.heap.size + 1) vb := hbf.mono (by omega)
    refine hR _ _ ⟨?_, ((((hb01.setCell (p := ⟨w.heap.size, 0, none⟩) (Nat.le_refl _) _).setCell (p := ⟨w.heap.size, 1, none⟩) (Nat.le_refl _) _).setCell (p := ⟨w.heap.size, 2, none⟩) (Nat.le_refl _) _).setCell (p := ⟨w.heap.size, 3, none⟩) (Nat.le_refl _) _).setCell (p := ⟨w.heap.size, 4, none⟩) (Nat.le_refl _) _⟩
    rw [hr]
    refine ⟨vq, vh, vb, rfl, ⟨?_, f1.mono (by omega)⟩, ⟨?_, f2.mono (by omega)⟩, ⟨?_, f3.mono (by omega)⟩⟩
    · exact pairsAt_set (pairsAt_set (pairsAt_set (pairsAt_set (pairsAt_set hq f1 (Nat.lt_succ_self _)) f1 (Nat.lt_succ_self _)) f1 (Nat.lt_succ_self _)) f1 (Nat.lt_succ_self _)) f1 (Nat.lt_succ_self _)
    · exact pairsAt_set (pairsAt_set (pairsAt_set (pairsAt_set (pairsAt_set hh f2 (Nat.lt_succ_self _)) f2 (Nat.lt_succ_self _)) f2 (Nat.lt_succ_self _)) f2 (Nat.lt_succ_self _)) f2 (Nat.lt_succ_self _)
    · exact bytesAt_set (bytesAt_set (bytesAt_set (bytesAt_set (bytesAt_set hb f3 (Nat.lt_succ_self _)) f3 (Nat.lt_succ_self _)) f3 (Nat.lt_succ_self _)) f3 (Nat.lt_succ_self _)) f3 (Nat.lt_succ_self _)
end Go.Proofs.YtciepffocobgpaaGreatDoor
