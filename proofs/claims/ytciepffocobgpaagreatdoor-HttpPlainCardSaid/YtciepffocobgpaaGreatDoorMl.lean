/- The laws of package http that lean on Parse, walked. -/
import Derived.Test.YtciepffocobgpaaGreatDoorMh
import Derived.Lib.SlBytesConst
import Derived.Test.YtciepffocobgpaaGreatDoorMs
namespace Go.Proofs.YtciepffocobgpaaGreatDoor
open Go Go.Sx Go.RowKit
set_option linter.unusedSimpArgs false
set_option linter.unusedVariables false
theorem Header_ (m p : ByteArray) (vq vh vb : Value) (ps : List Pr) (n : Bytes) (w : World) (hv : PairsAt w vh ps) (hl : ps.length ≤ 1000000) :
    Calls Tryz.prog 12 #[.agg #[.string m, .string p, vq, vh, vb], .string (mkS n)] w fun e w' => e = .returned (gvP (getP ps n)) ∧ Below w.heap.size w w' := by
  obtain ⟨z1, z2⟩ := cl_pairs hv
  refine calls_X Tryz.func12 rfl Tryz.ntmps12 Tryz.results12 rfl rfl (by kernel_rfl) fun R hR => ?_
  simp only [push_cast, Nat.reduceBEq, Nat.reduceLeDiff, Nat.reduceAdd]
  have hb0 := al_below w [([Value.string m, Value.string p, vq, vh, vb], 27)]
  refine (find_ vh ps (mkS n) _ (pairsAt_below hv hb0) (by omega)).mono ?_
  rintro e w2 ⟨rfl, hb⟩
  have hbw : Below w.heap.size w w2 := hb0.trans (hb.mono hb0.size)
  rw [toL_mkS]
  cases hg : getP ps n with
  | none =>
    rw [hg] at hR
    simp only [push_cast, Nat.reduceBEq, Nat.reduceLeDiff, Nat.reduceAdd, gvP] at hR ⊢
    exact hR _ _ ⟨rfl, hbw⟩
  | some x =>
    rw [hg] at hR
    simp only [push_cast, Nat.reduceBEq, Nat.reduceLeDiff, Nat.reduceAdd, gvP] at hR ⊢
    exact hR _ _ ⟨rfl, hbw⟩
def anchorL : Bytes := [80, 79, 83, 84, 32, 47, 116, 111, 107, 101, 110, 32, 72, 84, 84, 80, 47, 49, 46, 49, 13, 10, 72, 111, 115, 116, 58, 32, 97, 115, 13, 10, 67, 111, 110, 116, 101, 110, 116, 45, 76, 101, 110, 103, 116, 104, 58, 32, 51, 13, 10, 13, 10, 97, 61, 49]
theorem anchor_req : reqS anchorL = .ok ⟨[80, 79, 83, 84], [47, 116, 111, 107, 101, 110], [], [([104, 111, 115, 116], [97, 115]), (clen, [51])], [97, 61, 49]⟩ := by kernel_rfl
abbrev anchorC : List Value := [.int .u8 80, .int .u8 79, .int .u8 83, .int .u8 84, .int .u8 32, .int .u8 47, .int .u8 116, .int .u8 111, .int .u8 107, .int .u8 101, .int .u8 110, .int .u8 32, .int .u8 72, .int .u8 84, .int .u8 84, .int .u8 80, .int .u8 47, .int .u8 49, .int .u8 46, .int .u8 49, .int .u8 13, .int .u8 10, .int .u8 72, .int .u8 111, .int .u8 115, .int .u8 116, .int .u8 58, .int .u8 32, .int .u8 97, .int .u8 115, .int .u8 13, .int .u8 10, .int .u8 67, .int .u8 111, .int .u8 110, .int .u8 116, .int .u8 101, .int .u8 110, .int .u8 116, .int .u8 45, .int .u8 76, .int .u8 101, .int .u8 110, .int .u8 103, .int .u8 116, .int .u8 104, .int .u8 58, .int .u8 32, .int .u8 51, .int .u8 13, .int .u8 10, .int .u8 13, .int .u8 10, .int .u8 97, .int .u8 61, .int .u8 49]
theorem anchorC_eq : anchorC = anchorL.map fun c => .int .u8 c.toNat := by kernel_rfl
theorem bslA (w : World) : Sem.run Tryz.prog (Instr.buildSlice 22 56 #[(0, .int .u8 80), (1, .int .u8 79), (2, .int .u8 83), (3, .int .u8 84), (4, .int .u8 32), (5, .int .u8 47), (6, .int .u8 116), (7, .int .u8 111), (8, .int .u8 107), (9, .int .u8 101), (10, .int .u8 110), (11, .int .u8 32), (12, .int .u8 72), (13, .int .u8 84), (14, .int .u8 84), (15, .int .u8 80), (16, .int .u8 47), (17, .int .u8 49), (18, .int .u8 46), (19, .int .u8 49), (20, .int .u8 13), (21, .int .u8 10), (22, .int .u8 72), (23, .int .u8 111), (24, .int .u8 115), (25, .int .u8 116), (26, .int .u8 58), (27, .int .u8 32), (28, .int .u8 97), (29, .int .u8 115), (30, .int .u8 13), (31, .int .u8 10), (32, .int .u8 67), (33, .int .u8 111), (34, .int .u8 110), (35, .int .u8 116), (36, .int .u8 101), (37, .int .u8 110), (38, .int .u8 116), (39, .int .u8 45), (40, .int .u8 76), (41, .int .u8 101), (42, .int .u8 110), (43, .int .u8 103), (44, .int .u8 116), (45, .int .u8 104), (46, .int .u8 58), (47, .int .u8 32), (48, .int .u8 51), (49, .int .u8 13), (50, .int .u8 10), (51, .int .u8 13), (52, .int .u8 10), (53, .int .u8 97), (54, .int .u8 61), (55, .int .u8 49)]) w = .ok (.slice (some ⟨w.heap.size, 0, none⟩) 56 56) (w.alloc (.cells anchorC.toArray 5)) := by kernel_rfl
theorem conv2222 (w : World) : Sem.run Tryz.prog (convert 22 22 (.slice (some ⟨w.heap.size, 0, none⟩) 56 56)) (al w [(anchorC, 5)]) = .ok (.slice (some ⟨w.heap.size, 0, none⟩) 56 56) (w.alloc (.cells anchorC.toArray 5 (56, 57))) := by
  have := Lib.run_convert_bytes_const (P := Tryz.prog) w 22 5 anchorC.toArray 56 56 Tryz.underlying22 Tryz.underlying5
  rw [al_alloc] at this
  exact this
theorem anchor_ (w : World) (hG : G w) : Calls Tryz.prog 9 #[] w fun e w' => e = .returned (.bool true) ∧ Below w.heap.size w w' := by
  refine calls_X Tryz.func9 rfl Tryz.ntmps9 Tryz.results9 rfl rfl (by kernel_rfl) fun R hR => ?_
  simp only [push_cast, Nat.reduceBEq, Nat.reduceLeDiff, Nat.reduceAdd]
  rw [bslA]
  have hb0 : Below w.heap.size w (w.alloc (.cells anchorC.toArray 5 (56, 57))) := (Below.refl _ _).alloc (Nat.le_refl _) _
  have hs0 : (w.alloc (.cells anchorC.toArray 5 (56, 57))).heap.size = w.heap.size + 1 := by
    show (w.heap.push _).size = _
    rw [Array.size_push]
  have hhp : (w.alloc (.cells anchorC.toArray 5 (56, 57))).heap[w.heap.size]? = some (.cells anchorC.toArray 5 (56, 57)) := heap_alloc_new w _
  have hB : BytesAt (w.alloc (.cells anchorC.toArray 5 (56, 57))) (.slice (some ⟨w.heap.size, 0, none⟩) 56 56) anchorL := by
    refine .inr ⟨w.heap.size, 0, 56, rfl, by rw [hs0]; exact Nat.lt_succ_self _, fun j x hj => ?_⟩
    have : (w.alloc (.cells anchorC.toArray 5 (56, 57))).cell? ⟨w.heap.size, 0 + j, none⟩ = anchorC[j]? := by
      unfold World.cell?
      simp only [hhp, Option.isSome_none, Bool.false_eq_true, if_false, Nat.zero_add, List.getElem?_toArray]
    rw [this, anchorC_eq, List.getElem?_map, hj]; rfl
  have hc := conv2222 w
  generalize w.alloc (.cells anchorC.toArray 5 (56, 57)) = w0 at hb0 hB hc hs0
  simp only [push_cast, Nat.reduceBEq, Nat.reduceLeDiff, Nat.reduceAdd, hc]
  refine (Parse_ _ anchorL w0 (hG.step hb0 hG.size) hB).mono ?_
  rintro e w1 ⟨hP, hb1⟩
  rw [anchor_req] at hP
  obtain ⟨vq, vh, vb, rfl, ⟨hq, hqf⟩, ⟨hh, hhf⟩, ⟨hb, hbf⟩⟩ := hP
  obtain ⟨q1, q2⟩ := cl_pairs hq
  obtain ⟨h1, h2⟩ := cl_pairs hh
  obtain ⟨b1, b2⟩ := cl_bytes hb
  simp only [push_cast, Nat.reduceBEq, Nat.reduceLeDiff, Nat.reduceAdd, q1, q2, h1, h2, b1, b2]
  have hbA := al_below w1 [([Value.string (mkS [80, 79, 83, 84]), Value.string (mkS [47, 116, 111, 107, 101, 110]), vq, vh, vb], 27)]
  have hhA := pairsAt_below hh hbA
  have hBA := bytesAt_below hb hbA
  have hsA : (al w1 [([Value.string (mkS [80, 79, 83, 84]), Value.string (mkS [47, 116, 111, 107, 101, 110]), vq, vh, vb], 27)]).heap.size = w1.heap.size + 1 := by rw [al_size]; rfl
  refine (Header_ _ _ vq vh vb _ hostB _ hhA (by simp)).mono ?_
  rintro e w2 ⟨rfl, hb2⟩
  rw [show getP [(([104, 111, 115, 116] : Bytes), ([97, 115] : Bytes)), (clen, [51])] hostB = some [97, 115] from by kernel_rfl]
  have n0 := (new_cell hb2 (by omega) 0).1
  have n1 := (new_cell hb2 (by omega) 1).1
  have n4 := (new_cell hb2 (by omega) 4).1
  simp only [List.getElem?_cons_zero, List.getElem?_cons_succ] at n0 n1 n4
  have hB2 := bytesAt_below hBA hb2
  have hcb := conv_back hB2
  obtain ⟨A, c, rfl, _⟩ := bytesAt_shape hB2
  replace hcb : Sem.run Tryz.prog (convert 22 9 (.slice A 3 c)) w2 = .ok (.string (mkS [97, 61, 49])) w2 := hcb
  replace n4 : w2.cell? ⟨w1.heap.size, 4, none⟩ = some (.slice A 3 c) := n4
  have e1 : decide (mkS [80, 79, 83, 84] = { data := #[80, 79, 83, 84] }) = true := decide_eq_true rfl
  have e2 : decide (mkS [47, 116, 111, 107, 101, 110] = { data := #[47, 116, 111, 107, 101, 110] }) = true := decide_eq_true rfl
  have e3 : decide (mkS [97, 61, 49] = { data := #[97, 61, 49] }) = true := decide_eq_true rfl
  have e4 : decide (mkS [97, 115] = { data := #[97, 115] }) = true := decide_eq_true rfl
  have hfin : Below w.heap.size w w2 := ((hb0.trans (hb1.mono hb0.size)).trans (hbA.mono (by have := hb0.size; have := hb1.size; omega))).trans (hb2.mono (by have := hb0.size; have := hb1.size; omega))
  simp only [push_cast, Nat.reduceBEq, Nat.reduceLeDiff, Nat.reduceAdd, gvP, n0, n1, n4, hcb, e1, e2, e3, e4, Bool.and_self, decide_true]
  exact hR _ _ ⟨rfl, hfin⟩
end Go.Proofs.YtciepffocobgpaaGreatDoor
namespace Go.Proofs.YtciepffocobgpaaGreatDoor
open Go Go.Sx Go.RowKit
set_option linter.unusedSimpArgs false
set_option linter.unusedVariables false
theorem getP_nodup : ∀ (ps : List Pr), (ps.map Prod.fst).Nodup → ∀ (i : Nat) (p : Pr), ps[i]? = some p → getP ps p.1 = some p.2
  | [], _, i, p, h => by simp at h
  | x :: r, hn, i, p, h => by
    rw [List.map_cons, List.nodup_cons] at hn
    rw [getP, List.find?_cons]
    rcases i with _ | i
    · simp at h; subst h; simp
    · simp only [List.getElem?_cons_succ] at h
      have hne : (x.1 == p.1) = false := by
        rw [beq_eq_false_iff_ne]
        intro e
        exact hn.1 (by rw [e]; exact List.mem_map.2 ⟨p, List.mem_of_getElem? h, rfl⟩)
      rw [hne]
      exact getP_nodup r hn.2 i p h
theorem getP_none {ps : List Pr} {n : Bytes} (h : ¬ (getP ps n).isSome = true) : n ∉ ps.map Prod.fst := by
  intro hm
  obtain ⟨p, hp, rfl⟩ := List.mem_map.1 hm
  apply h
  unfold getP
  rw [Option.isSome_map, List.find?_isSome]
  exact ⟨p, hp, by simp⟩
theorem hdrsS_nodup : ∀ (f : Nat) (acc : List Pr) (s : Bytes) (h : List Pr) (rest : Bytes), hdrsS f acc s = .ok (h, rest) → (acc.map Prod.fst).Nodup → acc.length ≤ 32 → (h.map Prod.fst).Nodup ∧ h.length ≤ 32
  | 0, _, _, _, _, h, _, _ => by cases h
  | f + 1, acc, s, h, rest, hh, hn, hl => by
    rw [hdrsS] at hh
    split at hh
    · cases hh
    · split at hh
      · cases hh; exact ⟨hn, hl⟩
      · split at hh
        · cases hh
        · rename_i h32
          split at hh
          · cases hh
          · rename_i x hx
            split at hh
            · cases hh
            · rename_i hd
              refine hdrsS_nodup f _ _ _ _ hh ?_ (by simp; omega)
              rw [List.map_append, List.map_cons, List.map_nil]
              refine List.nodup_append.2 ⟨hn, by simp, ?_⟩
              intro a ha b hb e
              simp at hb
              subst hb; subst e
              exact getP_none hd ha
theorem reqS_nodup {l : Bytes} {r : Req} (h : reqS l = .ok r) : (r.hdrs.map Prod.fst).Nodup ∧ r.hdrs.length ≤ 32 := by
  unfold reqS at h
  split at h
  · cases h
  · split at h
    · cases h
    · split at h
      · cases h
      · split at h
        · cases h
        · rename_i hh
          split at h
          · split at h
            · cases h
            · cases h; exact hdrsS_nodup _ _ _ _ _ hh (by simp) (by simp)
          · cases h
theorem formGo_len : ∀ (ps : List Bytes) (acc out : List Pr), formGo ps acc = .ok out → acc.length ≤ 32 → out.length ≤ 32
  | [], acc, out, h, hl => by cases h; exact hl
  | p :: ps, acc, out, h, hl => by
    rw [formGo] at h
    split at h
    · cases h
    · split at h
      · cases h
      · split at h
        · cases h
        · exact formGo_len ps _ out h (by simp; omega)
theorem form_len {l : Bytes} {ps : List Pr} (h : form l = .ok ps) : ps.length ≤ 32 := by
  unfold form at h
  split at h
  · cases h; simp
  · exact formGo_len _ _ _ h (by simp)
theorem targetS_len {t p : Bytes} {q : List Pr} (h : targetS t = .ok (p, q)) : q.length ≤ 32 := by
  have hT : targetS t = if (pathQ t).1.head? = some 47 then
    if ofB pathC 100 (pathQ t).1 = true then
      match (pathQ t).2 with
      | none => .ok ((pathQ t).1, [])
      | some q => match form q with
        | .error e => .error e
        | .ok l => .ok ((pathQ t).1, l)
    else .error 31
  else .error 31 := rfl
  rw [hT] at h
  generalize pathQ t = pq at h
  obtain ⟨a, o⟩ := pq
  by_cases h1 : (a, o).1.head? = some 47
  · rw [if_pos h1] at h
    by_cases h2 : ofB pathC 100 (a, o).1 = true
    · rw [if_pos h2] at h
      cases o with
      | none => cases h; simp
      | some x =>
        simp only at h
        cases hf : form x with
        | error e => rw [hf] at h; cases h
        | ok l => rw [hf] at h; cases h; exact form_len hf
    · rw [if_neg h2] at h; cases h
  · rw [if_neg h1] at h; cases h
theorem firstS_len {l m p : Bytes} {q : List Pr} (h : firstS l = .ok (m, p, q)) : q.length ≤ 32 := by
  unfold firstS at h
  split at h
  · split at h
    · split at h
      · split at h
        · cases h
        · rename_i ht; cases h; exact targetS_len ht
      · cases h
    · cases h
  · cases h
theorem reqS_query {l : Bytes} {r : Req} (h : reqS l = .ok r) : r.query.length ≤ 32 := by
  unfold reqS at h
  split at h
  · cases h
  · split at h
    · cases h
    · split at h
      · cases h
      · rename_i hf
        split at h
        · cases h
        · split at h
          · split at h
            · cases h
            · cases h; exact firstS_len hf
          · cases h
set_option maxRecDepth 20000 in
theorem HttpParses_ (v : Value) (l : Bytes) (w : World) (hG : G w) (hv : BytesAt w v l) :
    Calls Tryz.prog 3 #[v] w fun e w' => e = .returned (.bool true) ∧ Below w.heap.size w w' := by
  obtain ⟨A, c, rfl, hcells⟩ := bytesAt_shape hv
  refine calls_X Tryz.func3 rfl Tryz.ntmps3 Tryz.results3 rfl rfl (by kernel_rfl) fun R hR => ?_
  simp only [push_cast, Nat.reduceBEq, Nat.reduceLeDiff, Nat.reduceAdd]
  refine (anchor_ w hG).mono ?_
  rintro e w1 ⟨rfl, hb1⟩
  have hv1 := bytesAt_below hv hb1
  have hG1 := hG.step hb1 hG.size
  simp only [push_cast, Nat.reduceBEq, Nat.reduceLeDiff, Nat.reduceAdd]
  refine ⟨fun _ => hR _ _ ⟨rfl, hb1⟩, fun _ => ?_⟩
  refine (Parse_ _ l w1 hG1 hv1).mono ?_
  rintro e w2 ⟨hP, hb2⟩
  have hv2 := bytesAt_below hv1 hb2
  have hb02 := hb1.trans (hb2.mono hb1.size)
  have hlaw := parse_law l
  cases hr : reqS l with
  | error er =>
    rw [hr] at hP hlaw
    simp only [CaughtPost] at hP
    subst hP
    obtain ⟨he, hne⟩ := hlaw
    have hb3 := al_below w2 [([Value.string ⟨#[]⟩, .string ⟨#[]⟩, .slice none 0 0, .slice none 0 0, .slice none 0 0], 27)]
    have hv3 := bytesAt_below hv2 hb3
    have hc3 := conv_back hv3
    simp only [push_cast, Nat.reduceBEq, Nat.reduceLeDiff, Nat.reduceAdd, hc3]
    refine (rParse l _).mono ?_
    rintro e w4 ⟨rfl, ⟨v2, v3, v4, h4⟩, hb4⟩
    have hs3 : (al w2 [([Value.string ⟨#[]⟩, .string ⟨#[]⟩, .slice none 0 0, .slice none 0 0, .slice none 0 0], 27)]).heap.size = w2.heap.size + 1 := by rw [al_size]; rfl
    have n0 := (new_cell hb4 (by omega) 0).1
    have n1 := (new_cell hb4 (by omega) 1).1
    have n2 := (new_cell hb4 (by omega) 2).1
    have n3 := (new_cell hb4 (by omega) 3).1
    have n4 := (new_cell hb4 (by omega) 4).1
    simp only [List.getElem?_cons_zero, List.getElem?_cons_succ] at n0 n1 n2 n3 n4
    have c6 := h4.c6
    rw [hs3] at c6
    rw [he] at c6
    have q1 : decide (er ≠ 0) = true := decide_eq_true hne
    have q2 : decide (er ≠ er) = false := decide_eq_false (fun h => h rfl)
    simp only [push_cast, Nat.reduceBEq, Nat.reduceLeDiff, Nat.reduceAdd, c6, n0, n1, n2, n3, n4, q1, q2, Bool.and_self, decide_true]
    have := hb02.size
    exact hR _ _ ⟨rfl, (hb02.trans (hb3.mono this)).trans (hb4.mono (by omega))⟩
  | ok r =>
    rw [hr] at hP hlaw
    obtain ⟨hnd, h32⟩ := reqS_nodup hr
    obtain ⟨vq, vh, vb, rfl, ⟨hq, hqf⟩, ⟨hh, hhf⟩, ⟨hb, hbf⟩⟩ := hP
    obtain ⟨q1, q2⟩ := cl_pairs hq
    obtain ⟨h1, h2⟩ := cl_pairs hh
    obtain ⟨b1, b2⟩ := cl_bytes hb
    have hb3 := al_below w2 [([Value.string (mkS r.method), .string (mkS r.path), vq, vh, vb], 27)]
    have hv3 := bytesAt_below hv2 hb3
    have hc3 := conv_back hv3
    simp only [push_cast, Nat.reduceBEq, Nat.reduceLeDiff, Nat.reduceAdd, hc3, q1, q2, h1, h2, b1, b2]
    refine (rParse l _).mono ?_
    rintro e w4 ⟨rfl, ⟨v2, v3, v4, h4⟩, hb4⟩
    have hs3 : (al w2 [([Value.string (mkS r.method), .string (mkS r.path), vq, vh, vb], 27)]).heap.size = w2.heap.size + 1 := by rw [al_size]; rfl
    have n0 := (new_cell hb4 (by omega) 0).1
    have n1 := (new_cell hb4 (by omega) 1).1
    have n2 := (new_cell hb4 (by omega) 2).1
    have n3 := (new_cell hb4 (by omega) 3).1
    have n4 := (new_cell hb4 (by omega) 4).1
    simp only [List.getElem?_cons_zero, List.getElem?_cons_succ] at n0 n1 n2 n3 n4
    rw [hs3, hlaw] at h4
    have hs4 := hb4.size
    rw [hs3] at hs4
    have hb24 := hb3.trans (hb4.mono (by omega))
    have hb04 := hb02.trans (hb24.mono hb02.size)
    replace hq := pairsAt_below hq hb24
    replace hh := pairsAt_below hh hb24
    replace hb := bytesAt_below hb hb24
    obtain ⟨Aq, cq, rfl, hqc⟩ := pairsAt_shape hq
    obtain ⟨Ah, ch, rfl, hhc⟩ := pairsAt_shape hh
    obtain ⟨Ab, cb, rfl, _⟩ := bytesAt_shape hb
    obtain ⟨Rq, dq, rfl, hRq⟩ := pairsAt_shape h4.q
    obtain ⟨Rn, dn, rfl, hRn⟩ := strsAt_shape (strs_of_own h4.n)
    obtain ⟨Rv, dv, rfl, hRv⟩ := strsAt_shape (strs_of_own h4.v)
    have c6 := h4.c6
    have q2' : decide ((0 : Int) ≠ 0) = false := rfl
    simp only at c6
    simp only [push_cast, Nat.reduceBEq, Nat.reduceLeDiff, Nat.reduceAdd, c6, q2']
    have m0 := h4.c0
    have h4lt := h4.lt
    have m1 := h4.c1
    have m2 := h4.c2
    have m3 := h4.c3
    have m4 := h4.c4
    have m5 := h4.c5
    simp only [List.length_map] at m0 m1 m2 m3 m4 m5 hRq hRn hRv
    clear h4 hb3 hv3 hc3 hb4 hs3 hlaw hv2 hv1 hv hcells hqf hhf hbf hq hb2 hb1 hb02 c6
    generalize w2.heap.size = pb at *
    have hpb : pb + 1 < w4.heap.size := h4lt
    have hp1 : pb < w4.heap.size := by omega
    have hp2 : pb + 1 < w4.heap.size := by omega
    have k0 : cellC (Below w4.heap.size w4) ⟨pb, 0, none⟩ = _ := cellC_below hp1 n0
    have k1 : cellC (Below w4.heap.size w4) ⟨pb, 1, none⟩ = _ := cellC_below hp1 n1
    have k2 : cellC (Below w4.heap.size w4) ⟨pb, 2, none⟩ = _ := cellC_below hp1 n2
    have k3 : cellC (Below w4.heap.size w4) ⟨pb, 3, none⟩ = _ := cellC_below hp1 n3
    have k4 : cellC (Below w4.heap.size w4) ⟨pb, 4, none⟩ = _ := cellC_below hp1 n4
    have j0 : cellC (Below w4.heap.size w4) ⟨pb + 1, 0, none⟩ = _ := cellC_below hp2 m0
    have j1 : cellC (Below w4.heap.size w4) ⟨pb + 1, 1, none⟩ = _ := cellC_below hp2 m1
    have j2 : cellC (Below w4.heap.size w4) ⟨pb + 1, 2, none⟩ = _ := cellC_below hp2 m2
    have j3 : cellC (Below w4.heap.size w4) ⟨pb + 1, 3, none⟩ = _ := cellC_below hp2 m3
    have j5 : cellC (Below w4.heap.size w4) ⟨pb + 1, 5, none⟩ = _ := cellC_below hp2 m5
    have jc : convC Tryz.prog (Below w4.heap.size w4) 22 9 (.slice Ab (List.length r.body) cb) = some (.string (mkS r.body)) :=
      convC_of w4 (Below.refl _ _) fun w' hw' => conv_back (bytesAt_below hb hw')
    have ee : ∀ a : ByteArray, decide (a ≠ a) = false := fun a => decide_eq_false (fun h => h rfl)
    have ei : ∀ a : Int, decide (a ≠ a) = false := fun a => decide_eq_false (fun h => h rfl)
    refine law_quiet (C := Below w4.heap.size w4) (by kernel_rfl) (by kernel_rfl) (Below.refl _ _).drew ?_
    simp only [push_cast, Nat.reduceBEq, Nat.reduceLeDiff, Nat.reduceAdd, k0, k1, k2, k3, k4, j0, j1, j2, j3, j5, jc, ee, ei, Bool.not_false, Bool.and_self, Bool.false_or]
    intro w5 hb5
    have F : ∀ w', Below w4.heap.size w4 w' → ∀ b i, b < w4.heap.size → w'.cell? ⟨b, i, none⟩ = w4.cell? ⟨b, i, none⟩ := fun w' hb' b i hlt => hb'.cell (p := ⟨b, i, none⟩) hlt
    have n3' := (F w5 hb5 pb 3 hp1).trans n3
    clear k0 k1 k2 k3 k4 j0 j1 j2 j3 j5 jc
    simp only [push_cast, Nat.reduceBEq, Nat.reduceLeDiff, Nat.reduceAdd, n3']
    refine law_loop [(2, 2), (6, 9), (118, 162)] (fun n h' w' => ∃ k : Nat, k ≤ r.hdrs.length ∧ n = r.hdrs.length - k ∧ h' 118 = .int .i64 k ∧ Below w4.heap.size w4 w') r.hdrs.length ⟨0, by omega, by omega, rfl, hb5⟩ ?_
    rintro n h' w6 ⟨k, hk, hn, h118, hb6⟩ T hT
    simp only [push_cast, Nat.reduceBEq, Nat.reduceLeDiff, Nat.reduceAdd, h118]
    refine ⟨fun hc => ?_, fun hc => ?_⟩
    · simp only [decide_eq_true_eq, Int.ofNat_lt] at hc
      have hx : r.hdrs[k]? = some r.hdrs[k] := List.getElem?_eq_getElem hc
      generalize r.hdrs[k] = x at hx
      obtain ⟨bh, oh, rfl, hbh, x1, x2⟩ := hhc k x hx
      rw [← F w6 hb6 bh _ hbh] at x1 x2
      have hbA := al_below w6 [([Value.string (mkS x.1), .string (mkS x.2)], 38)]
      have hs6 := hb6.size
      have hb7 := hb6.trans (hbA.mono hs6)
      have hsA : (al w6 [([Value.string (mkS x.1), .string (mkS x.2)], 38)]).heap.size = w6.heap.size + 1 := by rw [al_size]; rfl
      have a0 := (F _ hb7 pb 0 hp1).trans n0
      have a1 := (F _ hb7 pb 1 hp1).trans n1
      have a2 := (F _ hb7 pb 2 hp1).trans n2
      have a3 := (F _ hb7 pb 3 hp1).trans n3
      have a4 := (F _ hb7 pb 4 hp1).trans n4
      simp only [push_cast, Nat.reduceBEq, Nat.reduceLeDiff, Nat.reduceAdd, h118, x1, x2, a0, a1, a2, a3, a4]
      refine ⟨by omega, ?_⟩
      refine (Header_ _ _ _ _ _ r.hdrs x.1 _ (pairsAt_below hh hb7) (by omega)).mono ?_
      rintro e w8 ⟨rfl, hb8⟩
      rw [getP_nodup r.hdrs hnd k x hx]
      have hb48 := hb7.trans (hb8.mono hb7.size)
      have hs8 := hb8.size
      rw [hsA] at hs8
      obtain ⟨bn, on, rfl, hbn, y1⟩ := hRn k x.1 (by rw [List.getElem?_map, hx]; rfl)
      obtain ⟨bv, ov, rfl, hbv, y2⟩ := hRv k x.2 (by rw [List.getElem?_map, hx]; rfl)
      have s48 := hb48.size
      have z1 : cellC (Below w8.heap.size w8) ⟨bn, on + k, none⟩ = _ := cellC_below (by show bn < _; omega) ((F _ hb48 bn _ hbn).trans y1)
      have z2 : cellC (Below w8.heap.size w8) ⟨bv, ov + k, none⟩ = _ := cellC_below (by show bv < _; omega) ((F _ hb48 bv _ hbv).trans y2)
      have z3 : cellC (Below w8.heap.size w8) ⟨pb + 1, 3, none⟩ = _ := cellC_below (by show pb + 1 < _; omega) ((F _ hb48 (pb + 1) _ hp2).trans m3)
      have z4 : cellC (Below w8.heap.size w8) ⟨pb + 1, 4, none⟩ = _ := cellC_below (by show pb + 1 < _; omega) ((F _ hb48 (pb + 1) _ hp2).trans m4)
      have z5 : cellC (Below w8.heap.size w8) ⟨w6.heap.size, 0, none⟩ = _ := cellC_below (by show w6.heap.size < _; omega) (new_cell hb8 (by omega) 0).1
      have z6 : cellC (Below w8.heap.size w8) ⟨w6.heap.size, 1, none⟩ = _ := cellC_below (by show w6.heap.size < _; omega) (new_cell hb8 (by omega) 1).1
      simp only [push_cast, Nat.reduceBEq, Nat.reduceLeDiff, Nat.reduceAdd, h118, gvP]
      refine law_quiet (C := Below w8.heap.size w8) (by kernel_rfl) (by kernel_rfl) (Below.refl _ _).drew ?_
      simp only [push_cast, Nat.reduceBEq, Nat.reduceLeDiff, Nat.reduceAdd, h118, z1, z2, z3, z4, z5, z6, Nat.mul_one, ee, ei, Bool.not_false, Bool.not_true, Bool.and_self, Bool.false_or, gvP]
      refine ⟨by omega, by omega, fun w9 hb9 => hT (r.hdrs.length - (k + 1)) _ _ (by simp only [push_cast, Nat.reduceBEq, Nat.reduceLeDiff]) (by omega) ⟨k + 1, by omega, rfl, ?_, hb48.trans (hb9.mono hb48.size)⟩⟩
      simp only [push_cast, Nat.reduceBEq, Nat.reduceLeDiff]; rw [w64 (by omega) (by omega)]
    · have n2' := (F w6 hb6 pb 2 hp1).trans n2
      clear h118 hc hT hn hk hb5 n3'
      simp only [push_cast, Nat.reduceBEq, Nat.reduceLeDiff, Nat.reduceAdd, n2']
      have hqn := reqS_query hr
      refine law_loop [(2, 2), (10, 11), (166, 195)] (fun n h' w' => ∃ k : Nat, k ≤ r.query.length ∧ n = r.query.length - k ∧ h' 166 = .int .i64 k ∧ Below w4.heap.size w4 w') r.query.length ⟨0, by omega, by omega, rfl, hb6⟩ ?_
      rintro n' h2' w7 ⟨k, hk, hn, h166, hb7⟩ T hT
      simp only [push_cast, Nat.reduceBEq, Nat.reduceLeDiff, Nat.reduceAdd, h166]
      refine ⟨fun hc => ?_, fun hc => ?_⟩
      · simp only [decide_eq_true_eq, Int.ofNat_lt] at hc
        have hx : r.query[k]? = some r.query[k] := List.getElem?_eq_getElem hc
        generalize r.query[k] = x at hx
        obtain ⟨bq, oq, rfl, hbq, x1, x2⟩ := hqc k x hx
        obtain ⟨br, or', rfl, hbr, y1, y2⟩ := hRq k x hx
        rw [← F w7 hb7 bq _ hbq] at x1 x2
        have hbA := al_below w7 [([Value.string (mkS x.1), .string (mkS x.2)], 41)]
        have hs7 := hb7.size
        have hb8 := hb7.trans (hbA.mono hs7)
        have hsA : (al w7 [([Value.string (mkS x.1), .string (mkS x.2)], 41)]).heap.size = w7.heap.size + 1 := by rw [al_size]; rfl
        have z1 : cellC (Below (w7.heap.size + 1) (al w7 [([Value.string (mkS x.1), .string (mkS x.2)], 41)])) ⟨br, or' + k * 2, none⟩ = _ := cellC_below (by show br < _; omega) ((F _ hb8 br _ hbr).trans y1)
        have z2 : cellC (Below (w7.heap.size + 1) (al w7 [([Value.string (mkS x.1), .string (mkS x.2)], 41)])) ⟨br, or' + k * 2 + 1, none⟩ = _ := cellC_below (by show br < _; omega) ((F _ hb8 br _ hbr).trans y2)
        have z3 : cellC (Below (w7.heap.size + 1) (al w7 [([Value.string (mkS x.1), .string (mkS x.2)], 41)])) ⟨pb + 1, 2, none⟩ = _ := cellC_below (by show pb + 1 < _; omega) ((F _ hb8 (pb + 1) _ hp2).trans m2)
        have z5 : cellC (Below (w7.heap.size + 1) (al w7 [([Value.string (mkS x.1), .string (mkS x.2)], 41)])) ⟨w7.heap.size, 0, none⟩ = _ := cellC_below (by show w7.heap.size < _; omega) (al_cell0 ..)
        have z6 : cellC (Below (w7.heap.size + 1) (al w7 [([Value.string (mkS x.1), .string (mkS x.2)], 41)])) ⟨w7.heap.size, 1, none⟩ = _ := cellC_below (by show w7.heap.size < _; omega) (al_cell0 ..)
        simp only [push_cast, Nat.reduceBEq, Nat.reduceLeDiff, Nat.reduceAdd, h166, x1, x2]
        refine ⟨by omega, ?_⟩
        refine law_quiet (C := Below (w7.heap.size + 1) (al w7 [([Value.string (mkS x.1), .string (mkS x.2)], 41)])) (by kernel_rfl) (by kernel_rfl) (Below.refl _ _).drew ?_
        simp only [push_cast, Nat.reduceBEq, Nat.reduceLeDiff, Nat.reduceAdd, h166, z1, z2, z3, z5, z6, Nat.mul_one, ee, ei, Bool.not_false, Bool.not_true, Bool.and_self, Bool.false_or]
        refine ⟨by omega, by omega, fun w9 hb9 => hT (r.query.length - (k + 1)) _ _ (by simp only [push_cast, Nat.reduceBEq, Nat.reduceLeDiff]) (by omega) ⟨k + 1, by omega, rfl, ?_, hb8.trans (hb9.mono (by omega))⟩⟩
        simp only [push_cast, Nat.reduceBEq, Nat.reduceLeDiff]; rw [w64 (by omega) (by omega)]
      · exact hR _ _ ⟨rfl, hb04.trans (hb7.mono (by have := hb04.size; omega))⟩
end Go.Proofs.YtciepffocobgpaaGreatDoor
