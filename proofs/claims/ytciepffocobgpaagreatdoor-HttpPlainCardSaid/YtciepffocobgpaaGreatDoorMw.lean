/- A plain request's bytes are read as it; the law HttpPlain, walked. -/
import Derived.Test.YtciepffocobgpaaGreatDoorMu
/-! A form that is shown is read as it. -/
namespace Go.Proofs.YtciepffocobgpaaGreatDoor
open Go Go.Sx Go.RowKit
set_option linter.unusedSimpArgs false
set_option linter.unusedVariables false
theorem free_facts (c : UInt8) (h : freeB c = true) : c ≠ 43 ∧ c ≠ 37 ∧ ¬ (c.toNat < 33 ∨ 126 < c.toNat ∨ c = 38 ∨ c = 61) := by
  have := byte_all (fun c => !(freeB c) || decide (c ≠ 43 ∧ c ≠ 37 ∧ ¬ (c.toNat < 33 ∨ 126 < c.toNat ∨ c = 38 ∨ c = 61))) (by decide +kernel) c
  rw [h] at this
  simpa using this
theorem hx_facts : ∀ d, d < 16 → hex (hx d) = (d : Int) := by decide +kernel
def plainC (c : UInt8) : Bool := decide (33 ≤ c.toNat) && decide (c.toNat ≤ 126) && decide (c ≠ 38) && decide (c ≠ 61) && decide (c ≠ 63)
theorem esc1_plain (c : UInt8) : (esc1 c).all plainC = true := by
  have := byte_all (fun c => (esc1 c).all plainC) (by decide +kernel) c
  exact this
theorem escS_plain (l : Bytes) : ∀ c ∈ escS l, plainC c = true := by
  intro c hc
  obtain ⟨x, _, hx⟩ := List.mem_flatMap.1 hc
  exact List.all_eq_true.1 (esc1_plain x) c hx
theorem unesc_esc : ∀ (l : Bytes) (f : Nat), (escS l).length ≤ f → unesc f (escS l) = some l
  | [], f, _ => unesc_nil f
  | c :: l, f, h => by
    have hc := c.toNat_lt
    have e : escS (c :: l) = esc1 c ++ escS l := by simp [escS]
    rw [e] at h ⊢
    unfold esc1 at h ⊢
    by_cases h1 : freeB c = true
    · rw [if_pos h1] at h ⊢
      obtain ⟨f1, f2, f3⟩ := free_facts c h1
      simp only [List.cons_append, List.nil_append, List.length_cons] at h ⊢
      obtain ⟨g, rfl⟩ : ∃ g, f = g + 1 := ⟨f - 1, by omega⟩
      rw [unesc_cons, if_neg f1, if_neg f2, if_neg f3, unesc_esc l g (by omega)]
      rfl
    · rw [if_neg h1] at h ⊢
      by_cases h2 : c = 32
      · rw [if_pos h2] at h ⊢
        simp only [List.cons_append, List.nil_append, List.length_cons] at h ⊢
        obtain ⟨g, rfl⟩ : ∃ g, f = g + 1 := ⟨f - 1, by omega⟩
        rw [unesc_cons, if_pos rfl, unesc_esc l g (by omega), h2]
        rfl
      · rw [if_neg h2] at h ⊢
        simp only [List.cons_append, List.nil_append, List.length_cons] at h ⊢
        obtain ⟨g, rfl⟩ : ∃ g, f = g + 1 := ⟨f - 1, by omega⟩
        have x1 := hx_facts (c.toNat / 16) (by omega)
        have x2 := hx_facts (c.toNat % 16) (by omega)
        rw [unesc, if_neg (by decide), if_pos rfl]
        simp only [x1, x2]
        rw [if_neg (by omega), unesc_esc l g (by omega)]
        simp only [Option.map_some, Option.some.injEq, List.cons.injEq, and_true]
        rw [show (16 * ((c.toNat / 16 : Nat) : Int) + ((c.toNat % 16 : Nat) : Int)).toNat = c.toNat by omega]
        exact UInt8.ofNat_toNat
theorem unescape_esc (l : Bytes) (h : told l = true) : unescape (escS l) = .ok l := by
  rw [unescape, unesc_esc l _ (Nat.le_refl _)]
  simp only [h, if_true]
theorem one_oneS (p : Pr) (h1 : told p.1 = true) (h2 : told p.2 = true) (hne : p.1 ≠ []) : one (oneS p) = .ok p := by
  have a1 : ∀ x ∈ escS p.1, x ≠ 61 := fun x hx he => by have := escS_plain _ x hx; rw [he] at this; exact absurd this (by decide)
  have a2 : (escS p.2).contains 61 = false := by
    cases hc : (escS p.2).contains 61 with
    | false => rfl
    | true => have := escS_plain _ 61 (List.contains_iff_mem.1 hc); exact absurd this (by decide)
  rw [one, oneS, List.append_assoc, show [61] ++ escS p.2 = 61 :: escS p.2 from rfl, cut1_app 61 _ _ a1]
  simp only [a2, Bool.false_eq_true, if_false, unescape_esc p.1 h1, unescape_esc p.2 h2, if_neg hne]
theorem parts_none (c : UInt8) : ∀ l : Bytes, (∀ x ∈ l, x ≠ c) → parts c l = [l]
  | [], _ => rfl
  | x :: l, h => by
    rw [parts, if_neg (h x (List.mem_cons_self ..)), parts_none c l fun y hy => h y (List.mem_cons_of_mem _ hy)]
theorem parts_app (c : UInt8) : ∀ l r : Bytes, (∀ x ∈ l, x ≠ c) → parts c (l ++ c :: r) = l :: parts c r
  | [], r, _ => by rw [List.nil_append, parts, if_pos rfl]
  | x :: l, r, h => by
    rw [List.cons_append, parts, if_neg (h x (List.mem_cons_self ..)), parts_app c l r fun y hy => h y (List.mem_cons_of_mem _ hy)]
theorem join_cons (x y : Bytes) (r : List Bytes) (sep : Bytes) : Lib.join (x :: y :: r) sep = x ++ sep ++ Lib.join (y :: r) sep := by simp [Lib.join, List.intercalate, List.intersperse]
theorem parts_join (c : UInt8) : ∀ xs : List Bytes, xs ≠ [] → (∀ x ∈ xs, ∀ y ∈ x, y ≠ c) → parts c (Lib.join xs [c]) = xs
  | [], h, _ => absurd rfl h
  | [x], _, h => by
    rw [show Lib.join [x] [c] = x by simp [Lib.join, List.intercalate]]
    exact parts_none c x (h x (List.mem_cons_self ..))
  | x :: y :: r, _, h => by
    rw [join_cons, List.append_assoc, show [c] ++ Lib.join (y :: r) [c] = c :: Lib.join (y :: r) [c] from rfl, parts_app c x _ (h x (List.mem_cons_self ..)),
      parts_join c (y :: r) (by simp) fun z hz => h z (List.mem_cons_of_mem _ hz)]
theorem oneS_ne38 (p : Pr) : ∀ x ∈ oneS p, x ≠ 38 := by
  intro x hx he
  subst he
  rcases List.mem_append.1 hx with hx | hx
  · rcases List.mem_append.1 hx with hx | hx
    · exact absurd (escS_plain _ _ hx) (by decide)
    · exact absurd hx (by decide)
  · exact absurd (escS_plain _ _ hx) (by decide)
theorem oneS_ne (p : Pr) : oneS p ≠ [] := by simp [oneS]
theorem join_ne : ∀ xs : List Bytes, xs ≠ [] → (∀ x ∈ xs, x ≠ []) → Lib.join xs [38] ≠ []
  | [], h, _ => absurd rfl h
  | [x], _, h => by
    rw [show Lib.join [x] [38] = x by simp [Lib.join, List.intercalate]]
    exact h x (List.mem_cons_self ..)
  | x :: y :: r, _, h => by rw [join_cons]; simp
theorem formGo_map : ∀ (ps acc : List Pr), (∀ p ∈ ps, told p.1 = true ∧ told p.2 = true ∧ p.1 ≠ []) → ((acc ++ ps).map Prod.fst).Nodup → acc.length + ps.length ≤ 32 → formGo (ps.map oneS) acc = .ok (acc ++ ps)
  | [], acc, _, _, _ => by rw [List.map_nil, formGo, List.append_nil]
  | p :: ps, acc, h, hn, hl => by
    obtain ⟨h1, h2, h3⟩ := h p (List.mem_cons_self ..)
    simp only [List.length_cons] at hl
    rw [List.map_cons, formGo, if_neg (by omega), one_oneS p h1 h2 h3]
    simp only
    rw [if_neg, formGo_map ps (acc ++ [p]) (fun q hq => h q (List.mem_cons_of_mem _ hq)) (by rw [List.append_assoc]; exact hn) (by simp; omega), List.append_assoc]
    · rfl
    · intro ha
      obtain ⟨q, hq, he⟩ := List.any_eq_true.1 ha
      rw [decide_eq_true_iff] at he
      rw [List.map_append, List.map_cons, List.nodup_append] at hn
      exact hn.2.2 q.1 (List.mem_map.2 ⟨q, hq, rfl⟩) p.1 (List.mem_cons_self ..) he
theorem form_show (ps : List Pr) (hne : ps ≠ []) (h : ∀ p ∈ ps, told p.1 = true ∧ told p.2 = true ∧ p.1 ≠ []) (hn : (ps.map Prod.fst).Nodup) (hl : ps.length ≤ 32) : form (showS ps) = .ok ps := by
  have hm : ps.map oneS ≠ [] := by simpa using hne
  rw [form, if_neg (show showS ps ≠ [] from join_ne _ hm (fun x hx => by obtain ⟨p, _, rfl⟩ := List.mem_map.1 hx; exact oneS_ne p)), showS,
    parts_join 38 _ hm (fun x hx => by obtain ⟨p, _, rfl⟩ := List.mem_map.1 hx; exact oneS_ne38 p)]
  exact formGo_map ps [] h hn (by simpa using hl)
end Go.Proofs.YtciepffocobgpaaGreatDoor
/-! A plain request's bytes are read as it. -/
namespace Go.Proofs.YtciepffocobgpaaGreatDoor
open Go Go.Sx Go.RowKit
set_option linter.unusedSimpArgs false
set_option linter.unusedVariables false
structure PlainR (r : Req) : Prop where
  m0 : r.method ≠ []
  m1 : r.method.length ≤ 10
  m2 : ∀ c ∈ r.method, c ∈ upC
  p : ∃ q, r.path = 47 :: q ∧ q.length ≤ 90 ∧ ∀ c ∈ q, c ∈ pathC
  q0 : r.query.length ≤ 8
  q1 : ∀ p ∈ r.query, told p.1 = true ∧ told p.2 = true ∧ p.1 ≠ [] ∧ p.1.length + p.2.length ≤ 60
  q2 : (r.query.map Prod.fst).Nodup
  h : r.hdrs = [(hostB, [97, 115])]
  b : r.body.length ≤ 2000
theorem upC_facts : ∀ c ∈ upC, c ≠ 13 ∧ c ≠ 32 := by decide
theorem pathC_facts : ∀ c ∈ pathC, c ≠ 13 ∧ c ≠ 32 ∧ c ≠ 63 := by decide
theorem joinC : ∀ xs : List Bytes, (∀ x ∈ xs, ∀ c ∈ x, c ≠ 13 ∧ c ≠ 32) → ∀ c ∈ Lib.join xs [38], c ≠ 13 ∧ c ≠ 32
  | [], _, c, hc => by simp [Lib.join, List.intercalate] at hc
  | [x], h, c, hc => by
    rw [show Lib.join [x] [38] = x by simp [Lib.join, List.intercalate]] at hc
    exact h x (List.mem_cons_self ..) c hc
  | x :: y :: r, h, c, hc => by
    rw [join_cons] at hc
    rcases List.mem_append.1 hc with hc | hc
    · rcases List.mem_append.1 hc with hc | hc
      · exact h x (List.mem_cons_self ..) c hc
      · rw [List.mem_singleton] at hc; subst hc; decide
    · exact joinC (y :: r) (fun z hz => h z (List.mem_cons_of_mem _ hz)) c hc
theorem showC (ps : List Pr) : ∀ c ∈ showS ps, c ≠ 13 ∧ c ≠ 32 := by
  refine joinC _ fun x hx c hc => ?_
  obtain ⟨p, _, rfl⟩ := List.mem_map.1 hx
  have pl : ∀ c, plainC c = true → c ≠ 13 ∧ c ≠ 32 := fun c hc => ⟨fun e => by rw [e] at hc; exact absurd hc (by decide), fun e => by rw [e] at hc; exact absurd hc (by decide)⟩
  rcases List.mem_append.1 hc with hc | hc
  · rcases List.mem_append.1 hc with hc | hc
    · exact pl c (escS_plain _ _ hc)
    · rw [List.mem_singleton] at hc; subst hc; decide
  · exact pl c (escS_plain _ _ hc)
theorem target_read (r : Req) (h : PlainR r) : targetS (targetB r) = .ok (r.path, r.query) := by
  obtain ⟨q, hp, hq1, hq2⟩ := h.p
  have hpc : ∀ c ∈ r.path, c ∈ pathC := by
    rw [hp]
    intro c hc
    rcases List.mem_cons.1 hc with rfl | hc
    · decide
    · exact hq2 c hc
  have h63 : ∀ x ∈ r.path, x ≠ 63 := fun x hx => (pathC_facts x (hpc x hx)).2.2
  have hof : ofB pathC 100 r.path = true := by
    simp only [ofB, Bool.and_eq_true, Bool.not_eq_true', List.isEmpty_eq_false_iff, decide_eq_true_eq, List.all_eq_true]
    refine ⟨⟨by rw [hp]; simp, by rw [hp]; simp; omega⟩, fun c hc => ?_⟩
    exact List.contains_iff_mem.2 (hpc c hc)
  have hhd : r.path.head? = some 47 := by rw [hp]; rfl
  unfold targetB
  by_cases hq0 : r.query = []
  · rw [if_pos hq0, targetS]
    have hc : cut1 63 r.path = none := by
      rw [cut1_contains]
      cases hc : r.path.contains 63 with
      | false => rfl
      | true => exact absurd rfl (h63 63 (List.contains_iff_mem.1 hc))
    simp only [hc, hhd, hof, if_true, hq0]
  · rw [if_neg hq0, targetS]
    simp only [cut1_app 63 r.path (showS r.query) h63, hhd, hof, if_true, form_show r.query hq0 (fun p hp => ⟨(h.q1 p hp).1, (h.q1 p hp).2.1, (h.q1 p hp).2.2.1⟩) h.q2 (by have := h.q0; omega)]
theorem targetC (r : Req) (h : PlainR r) : ∀ c ∈ targetB r, c ≠ 13 ∧ c ≠ 32 := by
  obtain ⟨q, hp, hq1, hq2⟩ := h.p
  have hpc : ∀ c ∈ r.path, c ≠ 13 ∧ c ≠ 32 := by
    rw [hp]
    intro c hc
    rcases List.mem_cons.1 hc with rfl | hc
    · decide
    · exact ⟨(pathC_facts c (hq2 c hc)).1, (pathC_facts c (hq2 c hc)).2.1⟩
  unfold targetB
  split
  · exact hpc
  · intro c hc
    rcases List.mem_append.1 hc with hc | hc
    · exact hpc c hc
    · rcases List.mem_cons.1 hc with rfl | hc
      · decide
      · exact showC _ c hc
def lineB (r : Req) : Bytes := r.method ++ 32 :: (targetB r ++ 32 :: version)
theorem line_read (r : Req) (h : PlainR r) : firstS (lineB r) = .ok (r.method, r.path, r.query) := by
  have hm : ofB upC 10 r.method = true := by
    simp only [ofB, Bool.and_eq_true, Bool.not_eq_true', List.isEmpty_eq_false_iff, decide_eq_true_eq, List.all_eq_true]
    exact ⟨⟨h.m0, by have := h.m1; omega⟩, fun c hc => List.contains_iff_mem.2 (h.m2 c hc)⟩
  rw [firstS, lineB, parts_app 32 _ _ (fun x hx => (upC_facts x (h.m2 x hx)).2), parts_app 32 _ _ (fun x hx => (targetC r h x hx).2), parts_none 32 version (by decide)]
  simp only [hm, if_true, target_read r h]
theorem line13 (r : Req) (h : PlainR r) : ∀ c ∈ lineB r, c ≠ 13 := by
  intro c hc
  rcases List.mem_append.1 hc with hc | hc
  · exact (upC_facts c (h.m2 c hc)).1
  · rcases List.mem_cons.1 hc with rfl | hc
    · decide
    · rcases List.mem_append.1 hc with hc | hc
      · exact (targetC r h c hc).1
      · rcases List.mem_cons.1 hc with rfl | hc
        · decide
        · exact (by decide : ∀ c ∈ version, c ≠ 13) c hc
theorem reqB_line (r : Req) : reqB r = lineB r ++ 13 :: 10 :: (hlsS (addH r) ++ [13, 10] ++ r.body) := by simp [reqB, lineB]
theorem hdr_host : hdrS (hostB ++ [58, 32] ++ [97, 115]) = some (hostB, [97, 115]) := by decide +kernel
theorem hdr_clen (n : Nat) : hdrS (clen ++ [58, 32] ++ Lib.decDigits n) = some (clen, Lib.decDigits n) := by
  have hall := dd_all n
  have htr := trim_dd n
  rw [hdrS, show clen ++ [58, 32] ++ Lib.decDigits n = clen ++ 58 :: (32 :: Lib.decDigits n) from by simp, cut1_app 58 clen _ (by decide)]
  simp only
  rw [if_pos (by decide), if_pos, htr]
  · rfl
  · simp only [shownB, List.all_cons, List.all_eq_true, Bool.and_eq_true, decide_eq_true_eq]
    exact ⟨by decide, fun c hc => ⟨(hall c hc).2.2.2.1, (hall c hc).2.2.2.2⟩⟩
theorem clen13 (n : Nat) : ∀ c ∈ clen ++ [58, 32] ++ Lib.decDigits n, c ≠ 13 := by
  intro c hc
  rcases List.mem_append.1 hc with hc | hc
  · exact (by decide : ∀ c ∈ clen ++ [58, 32], c ≠ 13) c hc
  · exact (dd_all n c hc).2.1
theorem addH_plain (r : Req) (h : PlainR r) : addH r = if r.body = [] then [(hostB, [97, 115])] else [(hostB, [97, 115]), (clen, Lib.decDigits r.body.length)] := by
  unfold addH
  rw [h.h]
  have hg : getP [(hostB, ([97, 115] : Bytes))] clen = none := by decide
  by_cases hb : r.body = []
  · rw [if_neg (fun hh => hh.2 hb), if_pos hb]
  · rw [if_pos ⟨hg, hb⟩, if_neg hb]; rfl
theorem hdrs_plain (r : Req) (h : PlainR r) (f : Nat) : hdrsS (f + 3) [] (hlsS (addH r) ++ [13, 10] ++ r.body) = .ok (addH r, r.body) := by
  rw [addH_plain r h]
  by_cases hb : r.body = []
  · rw [if_pos hb, show hlsS [(hostB, ([97, 115] : Bytes))] ++ [13, 10] ++ r.body = hlS (hostB, [97, 115]) ++ (13 :: 10 :: r.body) from by simp [hlsS],
      hdrsS_line (f + 2) [] (hostB, [97, 115]) (hostB, [97, 115]) _ (by decide) (by decide) (by simp) hdr_host (by decide), hdrsS_end]
    rfl
  · rw [if_neg hb, show hlsS [(hostB, ([97, 115] : Bytes)), (clen, Lib.decDigits r.body.length)] ++ [13, 10] ++ r.body = hlS (hostB, [97, 115]) ++ (hlS (clen, Lib.decDigits r.body.length) ++ (13 :: 10 :: r.body)) from by simp [hlsS],
      hdrsS_line (f + 2) [] (hostB, [97, 115]) (hostB, [97, 115]) _ (by decide) (by decide) (by simp) hdr_host (by decide),
      List.nil_append, hdrsS_line (f + 1) _ (clen, Lib.decDigits r.body.length) (clen, Lib.decDigits r.body.length) _ (clen13 _) (show clen ≠ [] from by decide) (by simp) (hdr_clen _) (show (getP [(hostB, ([97, 115] : Bytes))] clen).isSome = false from by decide), hdrsS_end]
    rfl
theorem body_plain (r : Req) (h : PlainR r) : bodyS (addH r) r.body 8192 = .ok r.body := by
  have hb2 := h.b
  have hall := dd_all r.body.length
  have hlen := dd_len 5 r.body.length (by omega)
  have hne := dd_ne r.body.length
  rw [addH_plain r h]
  by_cases hb : r.body = []
  · rw [if_pos hb, hb]; rfl
  · rw [if_neg hb]
    have g1 : getP [(hostB, ([97, 115] : Bytes)), (clen, Lib.decDigits r.body.length)] tenc = none := by
      simp only [getP, List.find?_cons, show (hostB == tenc) = false from by decide, show (clen == tenc) = false from by decide]; rfl
    have g2 : getP [(hostB, ([97, 115] : Bytes)), (clen, Lib.decDigits r.body.length)] clen = some (Lib.decDigits r.body.length) := by
      simp only [getP, List.find?_cons, show (hostB == clen) = false from by decide, show (clen == clen) = true from by decide]; rfl
    rw [bodyS, g1, if_neg (by simp), countS, g2]
    simp only
    rw [if_pos, if_pos, if_pos]
    · simp only [decN_dd, if_true]
    · rw [decN_dd]; omega
    · rcases dd_head r.body.length with h | h
      · refine .inl ?_
        rw [h, Lib.decDigits]; rfl
      · exact .inr h
    · simp only [ofB, Bool.and_eq_true, List.all_eq_true, decide_eq_true_eq, Bool.not_eq_true', List.isEmpty_eq_false_iff]
      exact ⟨⟨hne, by omega⟩, fun c hc => by simpa using (hall c hc).1⟩
theorem host_plain (r : Req) (h : PlainR r) : (getP (addH r) hostB).isSome = true := by
  rw [addH_plain r h]
  split
  · decide
  · simp only [getP, List.find?_cons, show (hostB == hostB) = true from by decide]; rfl
theorem showS_short (ps : List Pr) (hl : ps.length ≤ 8) (h : ∀ p ∈ ps, p.1.length + p.2.length ≤ 60) : (showS ps).length ≤ 2000 := by
  have h1 := join_len [38] 181 (ps.map oneS) (fun x hx => by
    obtain ⟨p, hp, rfl⟩ := List.mem_map.1 hx
    have h1 := escS_len p.1
    have h2 := escS_len p.2
    have h3 := h p hp
    simp only [oneS, List.length_append, List.length_cons, List.length_nil]; omega)
  rw [List.length_map] at h1
  have h2 : ps.length * (181 + 1) ≤ 8 * 182 := Nat.mul_le_mul_right _ hl
  exact Nat.le_trans h1 (Nat.le_trans h2 (by decide))
theorem reqB_short (r : Req) (h : PlainR r) : (reqB r).length ≤ 16384 := by
  have h1 := showS_short r.query h.q0 (fun p hp => (h.q1 p hp).2.2.2)
  have h2 := h.m1
  have h3 := h.b
  obtain ⟨q, hp, hq1, _⟩ := h.p
  have hlen := dd_len 5 r.body.length (by omega)
  have h4 : (targetB r).length ≤ 2200 := by
    unfold targetB
    split
    · rw [hp]; simp; omega
    · rw [hp]; simp; omega
  have h5 : (hlsS (addH r)).length ≤ 100 := by
    rw [addH_plain r h]
    split
    · decide
    · simp only [hlsS, List.flatMap_cons, List.flatMap_nil, List.append_nil, hlS, List.length_append, List.length_cons, List.length_nil, show hostB.length = 4 from rfl, show clen.length = 14 from rfl]; omega
  rw [reqB_line, lineB]
  simp only [List.length_append, List.length_cons, List.length_nil, show version.length = 8 from rfl]
  omega
theorem plain_read (r : Req) (h : PlainR r) : reqS (reqB r) = .ok (wire r) := by
  have hs := reqB_short r h
  rw [reqS, if_neg (by omega), reqB_line, cutLine_app _ _ (line13 r h)]
  simp only [line_read r h]
  obtain ⟨f, hf⟩ : ∃ f, (hlsS (addH r) ++ [13, 10] ++ r.body).length + 1 = f + 3 := ⟨(hlsS (addH r)).length + r.body.length, by simp only [List.length_append, List.length_cons, List.length_nil]; omega⟩
  rw [hf, hdrs_plain r h f]
  simp only [host_plain r h, if_true, body_plain r h]
  rfl
end Go.Proofs.YtciepffocobgpaaGreatDoor
/-! The law HttpPlain, walked. -/
namespace Go.Proofs.YtciepffocobgpaaGreatDoor
open Go Go.Sx Go.RowKit
set_option linter.unusedSimpArgs false
set_option linter.unusedVariables false
theorem slc24_h (w : World) (A : Option Addr) (n c k : Nat) (hc : n ≤ c) (hk : k ≤ n) :
    (slcRun 24 [.slice A n c, .int .i64 (k : Int)] false true).run Tryz.prog w = .ok (.slice A k c) w := by
  show (Instr.sliceAt 24 (.slice A n c) none (some (.int .i64 (k : Int))) none).run Tryz.prog w = _
  have hu : Tryz.prog.underlying 24 = some (.slice (Tryz.prog.elem 24)) := by kernel_rfl
  have hz : (sizeOf (Tryz.prog.elem 24)).run Tryz.prog w = .ok 2 w := by kernel_rfl
  rw [run_sliceAt_slice w 24 _ _ _ _ hu, run_slice_h w 24 A n c hu .i64 (k : Int) (by omega) (by omega), hz]
  simp only [Result.andThen, sliced, Int.toNat_natCast, Nat.sub_zero]
  cases A with
  | none => simp
  | some a => simp [Addr.add]
theorem bld27 (a b : ByteArray) (A1 A2 A3 : Option Addr) (n1 n2 n3 c1 c2 c3 : Nat) (w : World) : Sem.run Tryz.prog (Instr.build 27 #[(0, .string a), (1, .string b), (2, .slice A1 n1 c1), (3, .slice A2 n2 c2), (4, .slice A3 n3 c3)]) w = .ok (.agg #[.string a, .string b, .slice A1 n1 c1, .slice A2 n2 c2, .slice A3 n3 c3]) w := by kernel_rfl
theorem up_mem (c : UInt8) (h1 : 65 ≤ c.toNat) (h2 : c.toNat ≤ 90) : c ∈ upC := by
  have := byte_all (fun c => !(decide (65 ≤ c.toNat) && decide (c.toNat ≤ 90)) || upC.contains c) (by decide +kernel) c
  rw [decide_eq_true h1, decide_eq_true h2] at this
  exact List.contains_iff_mem.1 (by simpa using this)
theorem path_mem (c : UInt8) (h : (97 ≤ c.toNat ∧ c.toNat ≤ 122) ∨ (48 ≤ c.toNat ∧ c.toNat ≤ 57) ∨ c.toNat = 47) : c ∈ pathC := by
  have := byte_all (fun c => !(decide ((97 ≤ c.toNat ∧ c.toNat ≤ 122) ∨ (48 ≤ c.toNat ∧ c.toNat ≤ 57) ∨ c.toNat = 47)) || pathC.contains c) (by decide +kernel) c
  rw [decide_eq_true h] at this
  exact List.contains_iff_mem.1 (by simpa using this)
def GoodP (p : Pr) : Prop := told p.1 = true ∧ told p.2 = true ∧ p.1 ≠ [] ∧ p.1.length + p.2.length ≤ 60
set_option maxRecDepth 20000 in
set_option maxHeartbeats 4000000 in
theorem HttpPlain_ (m p : ByteArray) (vq vb : Value) (qs : List Pr) (body : Bytes) (w : World) (hG : G w) (pq : PairsV w vq qs) (pb : BytesAt w vb body)
    (hcap : ∀ A n c, vq = .slice A n c → n ≤ c) (hz2 : ∀ p ∈ qs, p.1.length ≤ 140737488355328 ∧ p.2.length ≤ 140737488355328) :
    Calls Tryz.prog 7 #[.string m, .string p, vq, vb] w fun e w' => e = .returned (.bool true) ∧ Below w.heap.size w w' := by
  refine calls_X Tryz.func7 rfl Tryz.ntmps7 Tryz.results7 rfl rfl (by kernel_rfl) fun R hR => ?_
  simp only [push_cast, Nat.reduceBEq, Nat.reduceLeDiff, Nat.reduceAdd]
  refine (anchor_ w hG).mono ?_
  rintro e w1 ⟨rfl, hb1⟩
  have hs1 := hb1.size
  obtain ⟨Aq, cq, hvq, hcq⟩ := id pq
  obtain ⟨Ab, cb, hvb, _⟩ := bytesAt_shape pb
  subst hvq hvb
  have hcp := hcap Aq qs.length cq rfl
  clear hcap
  by_cases a1 : qs.length > 8
  · have r1 : decide (((qs.length : Nat) : Int) > 8) = true := decide_eq_true (by omega)
    simp only [push_cast, Nat.reduceBEq, Nat.reduceLeDiff, Nat.reduceAdd, r1]
    exact hR _ _ ⟨rfl, hb1⟩
  have r1 : decide (((qs.length : Nat) : Int) > 8) = false := decide_eq_false (by omega)
  by_cases a2 : body.length > 2000
  · have r2 : decide (((body.length : Nat) : Int) > 2000) = true := decide_eq_true (by omega)
    simp only [push_cast, Nat.reduceBEq, Nat.reduceLeDiff, Nat.reduceAdd, r1, r2]
    exact hR _ _ ⟨rfl, hb1⟩
  have r2 : decide (((body.length : Nat) : Int) > 2000) = false := decide_eq_false (by omega)
  by_cases a3 : p.size > 90
  · have r3 : decide (((p.size : Nat) : Int) > 90) = true := decide_eq_true (by omega)
    simp only [push_cast, Nat.reduceBEq, Nat.reduceLeDiff, Nat.reduceAdd, r1, r2, r3]
    exact hR _ _ ⟨rfl, hb1⟩
  have r3 : decide (((p.size : Nat) : Int) > 90) = false := decide_eq_false (by omega)
  by_cases a4 : m.size < 1
  · have r4 : decide (((m.size : Nat) : Int) < 1) = true := decide_eq_true (by omega)
    simp only [push_cast, Nat.reduceBEq, Nat.reduceLeDiff, Nat.reduceAdd, r1, r2, r3, r4]
    exact hR _ _ ⟨rfl, hb1⟩
  have r4 : decide (((m.size : Nat) : Int) < 1) = false := decide_eq_false (by omega)
  by_cases a5 : m.size > 10
  · have r5 : decide (((m.size : Nat) : Int) > 10) = true := decide_eq_true (by omega)
    simp only [push_cast, Nat.reduceBEq, Nat.reduceLeDiff, Nat.reduceAdd, r1, r2, r3, r4, r5]
    exact hR _ _ ⟨rfl, hb1⟩
  have r5 : decide (((m.size : Nat) : Int) > 10) = false := decide_eq_false (by omega)
  simp only [push_cast, Nat.reduceBEq, Nat.reduceLeDiff, Nat.reduceAdd, r1, r2, r3, r4, r5]
  refine law_loop [(8, 9), (45, 58)] (fun n h w' => ∃ k : Nat, k ≤ m.size ∧ n = m.size - k ∧ h 45 = .int .i64 k ∧ (∀ c ∈ (toL m).take k, 65 ≤ c.toNat ∧ c.toNat ≤ 90) ∧ w' = w1) m.size ⟨0, by omega, by omega, rfl, by simp, rfl⟩ ?_
  rintro n h w2 ⟨k, hk, hn, h45, hle, rfl⟩ T hT
  by_cases hkl : k < m.size
  · have qk : decide ((k : Int) < m.size) = true := decide_eq_true (by omega)
    have hkt : k < (toL m).length := by rw [toL_len]; exact hkl
    have hbt := bt_get m k hkt
    have htk := List.take_succ_eq_append_getElem hkt
    generalize (toL m)[k] = c at hbt htk
    by_cases c1 : c.toNat < 65
    · have s1 : decide ((c.toNat : Int) < 65) = true := decide_eq_true (by omega)
      simp only [push_cast, Nat.reduceBEq, Nat.reduceLeDiff, Nat.reduceAdd, h45, qk, hbt, s1]
      exact ⟨⟨by omega, by omega⟩, hR _ _ ⟨rfl, hb1⟩⟩
    have s1 : decide ((c.toNat : Int) < 65) = false := decide_eq_false (by omega)
    by_cases c2 : c.toNat > 90
    · have s2 : decide ((c.toNat : Int) > 90) = true := decide_eq_true (by omega)
      simp only [push_cast, Nat.reduceBEq, Nat.reduceLeDiff, Nat.reduceAdd, h45, qk, hbt, s1, s2]
      exact ⟨⟨by omega, by omega⟩, ⟨by omega, by omega⟩, hR _ _ ⟨rfl, hb1⟩⟩
    have s2 : decide ((c.toNat : Int) > 90) = false := decide_eq_false (by omega)
    simp only [push_cast, Nat.reduceBEq, Nat.reduceLeDiff, Nat.reduceAdd, h45, qk, hbt, s1, s2]
    refine ⟨⟨by omega, by omega⟩, ⟨by omega, by omega⟩, hT (m.size - (k + 1)) _ _ (by simp only [push_cast, Nat.reduceBEq, Nat.reduceLeDiff]) (by omega) ⟨k + 1, by omega, rfl, ?_, fun x hx => ?_, rfl⟩⟩
    · simp only [push_cast, Nat.reduceBEq, Nat.reduceLeDiff]; rw [w64 (by omega) (by omega)]
    · rw [htk, List.mem_append, List.mem_singleton] at hx
      rcases hx with hx | rfl
      · exact hle x hx
      · omega
  have qk : decide ((k : Int) < m.size) = false := decide_eq_false (by omega)
  rw [take_all m k (by omega)] at hle
  have hmet := hle
  simp only [push_cast, Nat.reduceBEq, Nat.reduceLeDiff, Nat.reduceAdd, h45, qk]
  clear hle hT h45 hn qk hkl
  refine law_loop [(8, 8), (10, 11), (13, 13), (61, 105)] (fun n h w' => ∃ k : Nat, k ≤ qs.length ∧ n = qs.length - k ∧ h 61 = .int .i64 k ∧ (∀ p ∈ qs.take k, GoodP p) ∧ ((qs.take k).map Prod.fst).Nodup ∧ Below w2.heap.size w2 w') qs.length ⟨0, by omega, by omega, rfl, by simp, by simp, Below.refl _ _⟩ ?_
  rintro n2 h2 w3 ⟨k, hk, hn, h61, hgood, hnd, hb3⟩ T2 hT
  have hb03 := hb1.trans (hb3.mono hs1)
  have hs3 := hb3.size
  by_cases hkl : k < qs.length
  · have qk : decide ((k : Int) < qs.length) = true := decide_eq_true (by omega)
    obtain ⟨b, o, rfl, hlt, d1, d2⟩ := hcq k _ (List.getElem?_eq_getElem hkl)
    have htk := List.take_succ_eq_append_getElem hkl
    have hzk := hz2 _ (List.getElem_mem hkl)
    generalize qs[k] = q at d1 d2 htk hzk
    rw [← hb03.cell (p := ⟨b, _, none⟩) hlt] at d1 d2
    obtain ⟨w4, hw4⟩ : ∃ w4, w4 = al w3 [([Value.string (mkS q.1), .string (mkS q.2)], 41)] := ⟨_, rfl⟩
    have hz4 : w4.heap.size = w3.heap.size + 1 := by rw [hw4, al_size]; rfl
    have hb4 : Below w3.heap.size w3 w4 := hw4 ▸ al_below _ _
    have hb04 := hb03.trans (hb4.mono hb03.size)
    have g1 : w4.cell? ⟨w3.heap.size, 0, none⟩ = some (.string (mkS q.1)) := by rw [hw4]; exact al_cell0 ..
    have g2 : w4.cell? ⟨w3.heap.size, 1, none⟩ = some (.string (mkS q.2)) := by rw [hw4]; exact al_cell0 ..
    have wk : IntKind.i64.wrap ((q.1.length : Int) + q.2.length) = (q.1.length : Int) + q.2.length := w64 (by omega) (by omega)
    by_cases a1 : q.1 = []
    · have s1 : decide (mkS q.1 = (⟨#[]⟩ : ByteArray)) = true := decide_eq_true ((mkS_nil _).2 a1)
      simp only [push_cast, Nat.reduceBEq, Nat.reduceLeDiff, Nat.reduceAdd, h61, qk, d1, d2, s1]
      rw [← hw4]
      exact ⟨⟨by omega, by omega⟩, hR _ _ ⟨rfl, hb04⟩⟩
    have s1 : decide (mkS q.1 = (⟨#[]⟩ : ByteArray)) = false := decide_eq_false (fun h => a1 ((mkS_nil _).1 h))
    by_cases a2 : q.1.length + q.2.length > 60
    · have s2 : decide (((q.1.length : Int) + q.2.length) > 60) = true := decide_eq_true (by omega)
      simp only [push_cast, Nat.reduceBEq, Nat.reduceLeDiff, Nat.reduceAdd, h61, qk, d1, d2, s1, size_mkS, wk, s2]
      rw [← hw4]
      exact ⟨⟨by omega, by omega⟩, hR _ _ ⟨rfl, hb04⟩⟩
    have s2 : decide (((q.1.length : Int) + q.2.length) > 60) = false := decide_eq_false (by omega)
    simp only [push_cast, Nat.reduceBEq, Nat.reduceLeDiff, Nat.reduceAdd, h61, qk, d1, d2, s1, size_mkS, wk, s2]
    rw [← hw4]
    clear hw4
    refine ⟨⟨by omega, by omega⟩, (Told_ (mkS q.1) (by rw [size_mkS]; omega) w4).mono ?_⟩
    rintro e w5 ⟨rfl, hb5⟩
    rw [toL_mkS]
    have hb35 := hb4.trans (hb5.mono hb4.size)
    have hb05 := hb03.trans (hb35.mono hb03.size)
    have hs5 := hb5.size
    rw [← hb5.cell (p := ⟨w3.heap.size, _, none⟩) (show w3.heap.size < _ by omega)] at g1 g2
    by_cases a3 : told q.1 = true
    case neg =>
      rw [Bool.not_eq_true] at a3
      simp only [push_cast, Nat.reduceBEq, Nat.reduceLeDiff, Nat.reduceAdd, h61, a3]
      exact hR _ _ ⟨rfl, hb05⟩
    simp only [push_cast, Nat.reduceBEq, Nat.reduceLeDiff, Nat.reduceAdd, h61, a3, g1, g2]
    refine (Told_ (mkS q.2) (by rw [size_mkS]; omega) w5).mono ?_
    rintro e w6 ⟨rfl, hb6⟩
    rw [toL_mkS]
    have hb36 := hb35.trans (hb6.mono hb35.size)
    have hb06 := hb03.trans (hb36.mono hb03.size)
    have hs6 := hb6.size
    rw [← hb6.cell (p := ⟨w3.heap.size, _, none⟩) (show w3.heap.size < _ by omega)] at g1 g2
    by_cases a4 : told q.2 = true
    case neg =>
      rw [Bool.not_eq_true] at a4
      simp only [push_cast, Nat.reduceBEq, Nat.reduceLeDiff, Nat.reduceAdd, h61, a4]
      exact hR _ _ ⟨rfl, hb06⟩
    have hsl := slc24_h w6 (some ⟨b, o, none⟩) qs.length cq k hcp hk
    simp only [push_cast, Nat.reduceBEq, Nat.reduceLeDiff, Nat.reduceAdd, h61, a4, g1, g2, hsl]
    refine law_loop [(8, 8), (13, 13), (95, 104)] (fun n h w' => ∃ j : Nat, j ≤ k ∧ n = k - j ∧ h 95 = .int .i64 j ∧ (∀ p ∈ qs.take j, p.1 ≠ q.1) ∧ Below w6.heap.size w6 w') k ⟨0, by omega, by omega, rfl, by simp, Below.refl _ _⟩ ?_
    rintro n3 h3 w7 ⟨j, hj, hn3, h95, hne, hb7⟩ T3 hT3
    have hb37 := hb36.trans (hb7.mono hb36.size)
    have hb07 := hb03.trans (hb37.mono hb03.size)
    have hs7 := hb7.size
    rw [← hb7.cell (p := ⟨w3.heap.size, _, none⟩) (show w3.heap.size < _ by omega)] at g1 g2
    by_cases hjl : j < k
    · have qj : decide ((j : Int) < k) = true := decide_eq_true (by omega)
      have hjq : j < qs.length := by omega
      obtain ⟨b', o', hbo, hlt', e1, e2⟩ := hcq j _ (List.getElem?_eq_getElem hjq)
      cases hbo
      have tj := List.take_succ_eq_append_getElem hjq
      generalize qs[j] = x at e1 e2 tj
      rw [← hb07.cell (p := ⟨b, _, none⟩) hlt] at e1 e2
      have g1' : (al w7 [([Value.string (mkS x.1), Value.string (mkS x.2)], 41)]).cell? ⟨w3.heap.size, 0, none⟩ = some (.string (mkS q.1)) := (al_cell_old _ _ (⟨w3.heap.size, 0, none⟩ : Addr) (show w3.heap.size < _ by omega)).trans g1
      by_cases hxq : x.1 = q.1
      · have s3 : decide (mkS x.1 = mkS q.1) = true := decide_eq_true (by rw [hxq])
        simp only [push_cast, Nat.reduceBEq, Nat.reduceLeDiff, Nat.reduceAdd, h95, qj, e1, e2, g1', s3]
        exact ⟨⟨by omega, by omega⟩, hR _ _ ⟨rfl, hb07.trans ((al_below _ _).mono hb07.size)⟩⟩
      · have s3 : decide (mkS x.1 = mkS q.1) = false := decide_eq_false (fun h => hxq (mkS_inj h))
        simp only [push_cast, Nat.reduceBEq, Nat.reduceLeDiff, Nat.reduceAdd, h95, qj, e1, e2, g1', s3]
        refine ⟨⟨by omega, by omega⟩, hT3 (k - (j + 1)) _ _ (by simp only [push_cast, Nat.reduceBEq, Nat.reduceLeDiff]) (by omega) ⟨j + 1, by omega, rfl, ?_, fun y hy => ?_, hb7.trans ((al_below _ _).mono hb7.size)⟩⟩
        · simp only [push_cast, Nat.reduceBEq, Nat.reduceLeDiff]; rw [w64 (by omega) (by omega)]
        · rw [tj, List.mem_append, List.mem_singleton] at hy
          rcases hy with hy | rfl
          · exact hne y hy
          · exact hxq
    have qj : decide ((j : Int) < k) = false := decide_eq_false (by omega)
    have hjk : j = k := by omega
    subst hjk
    simp only [push_cast, Nat.reduceBEq, Nat.reduceLeDiff, Nat.reduceAdd, h61, h95, qj]
    refine hT (qs.length - (j + 1)) _ _ (by simp only [push_cast, Nat.reduceBEq, Nat.reduceLeDiff]) (by omega) ⟨j + 1, by omega, rfl, ?_, fun y hy => ?_, ?_, hb3.trans (hb37.mono hs3)⟩
    · simp only [push_cast, Nat.reduceBEq, Nat.reduceLeDiff, h61]; rw [w64 (by omega) (by omega)]
    · rw [htk, List.mem_append, List.mem_singleton] at hy
      rcases hy with hy | rfl
      · exact hgood y hy
      · exact ⟨a3, a4, a1, by omega⟩
    · rw [htk, List.map_append, List.map_cons, List.map_nil, List.nodup_append]
      refine ⟨hnd, by simp, fun a ha c hc he => ?_⟩
      rw [List.mem_singleton] at hc
      obtain ⟨y, hy, rfl⟩ := List.mem_map.1 ha
      exact hne y hy (he.trans hc)
  have qk : decide ((k : Int) < qs.length) = false := decide_eq_false (by omega)
  rw [List.take_of_length_le (by omega)] at hgood hnd
  simp only [push_cast, Nat.reduceBEq, Nat.reduceLeDiff, Nat.reduceAdd, h61, qk]
  clear hT h61 hn qk hkl
  refine law_loop [(8, 8), (14, 15), (108, 133)] (fun n h w' => ∃ k : Nat, k ≤ p.size ∧ n = p.size - k ∧ h 108 = .int .i64 k ∧ (∀ c ∈ (toL p).take k, (97 ≤ c.toNat ∧ c.toNat ≤ 122) ∨ (48 ≤ c.toNat ∧ c.toNat ≤ 57) ∨ c.toNat = 47) ∧ w' = w3) p.size ⟨0, by omega, by omega, rfl, by simp, rfl⟩ ?_
  rintro n4 h4 w8 ⟨k, hk, hn, h108, hpc, rfl⟩ T4 hT
  by_cases hkl : k < p.size
  · have qk : decide ((k : Int) < p.size) = true := decide_eq_true (by omega)
    have hkt : k < (toL p).length := by rw [toL_len]; exact hkl
    have hbt := bt_get p k hkt
    have htk := List.take_succ_eq_append_getElem hkt
    generalize (toL p)[k] = c at hbt htk
    by_cases x1 : 97 ≤ c.toNat
    · have s1 : decide ((c.toNat : Int) ≥ 97) = true := decide_eq_true (by omega)
      by_cases x2 : c.toNat ≤ 122
      · have s2 : decide ((c.toNat : Int) ≤ 122) = true := decide_eq_true (by omega)
        simp only [push_cast, Nat.reduceBEq, Nat.reduceLeDiff, Nat.reduceAdd, h108, qk, hbt, s1, s2]
        refine ⟨⟨by omega, by omega⟩, hT (p.size - (k + 1)) _ _ (by simp only [push_cast, Nat.reduceBEq, Nat.reduceLeDiff]) (by omega) ⟨k + 1, by omega, rfl, ?_, fun x hx => ?_, rfl⟩⟩
        · simp only [push_cast, Nat.reduceBEq, Nat.reduceLeDiff]; rw [w64 (by omega) (by omega)]
        · rw [htk, List.mem_append, List.mem_singleton] at hx
          rcases hx with hx | rfl
          · exact hpc x hx
          · omega
      · have s2 : decide ((c.toNat : Int) ≤ 122) = false := decide_eq_false (by omega)
        have s3 : decide ((c.toNat : Int) ≥ 48) = true := decide_eq_true (by omega)
        have s4 : decide ((c.toNat : Int) ≤ 57) = false := decide_eq_false (by omega)
        have s5 : decide ((c.toNat : Int) = 47) = false := decide_eq_false (by omega)
        simp only [push_cast, Nat.reduceBEq, Nat.reduceLeDiff, Nat.reduceAdd, h108, qk, hbt, s1, s2, s3, s4, s5]
        exact ⟨⟨by omega, by omega⟩, hR _ _ ⟨rfl, hb03⟩⟩
    have s1 : decide ((c.toNat : Int) ≥ 97) = false := decide_eq_false (by omega)
    by_cases x3 : 48 ≤ c.toNat
    · have s3 : decide ((c.toNat : Int) ≥ 48) = true := decide_eq_true (by omega)
      by_cases x4 : c.toNat ≤ 57
      · have s4 : decide ((c.toNat : Int) ≤ 57) = true := decide_eq_true (by omega)
        simp only [push_cast, Nat.reduceBEq, Nat.reduceLeDiff, Nat.reduceAdd, h108, qk, hbt, s1, s3, s4]
        refine ⟨⟨by omega, by omega⟩, hT (p.size - (k + 1)) _ _ (by simp only [push_cast, Nat.reduceBEq, Nat.reduceLeDiff]) (by omega) ⟨k + 1, by omega, rfl, ?_, fun x hx => ?_, rfl⟩⟩
        · simp only [push_cast, Nat.reduceBEq, Nat.reduceLeDiff]; rw [w64 (by omega) (by omega)]
        · rw [htk, List.mem_append, List.mem_singleton] at hx
          rcases hx with hx | rfl
          · exact hpc x hx
          · omega
      · have s4 : decide ((c.toNat : Int) ≤ 57) = false := decide_eq_false (by omega)
        have s5 : decide ((c.toNat : Int) = 47) = false := decide_eq_false (by omega)
        simp only [push_cast, Nat.reduceBEq, Nat.reduceLeDiff, Nat.reduceAdd, h108, qk, hbt, s1, s3, s4, s5]
        exact ⟨⟨by omega, by omega⟩, hR _ _ ⟨rfl, hb03⟩⟩
    have s3 : decide ((c.toNat : Int) ≥ 48) = false := decide_eq_false (by omega)
    by_cases x5 : c.toNat = 47
    · have s5 : decide ((c.toNat : Int) = 47) = true := decide_eq_true (by omega)
      simp only [push_cast, Nat.reduceBEq, Nat.reduceLeDiff, Nat.reduceAdd, h108, qk, hbt, s1, s3, s5]
      refine ⟨⟨by omega, by omega⟩, hT (p.size - (k + 1)) _ _ (by simp only [push_cast, Nat.reduceBEq, Nat.reduceLeDiff]) (by omega) ⟨k + 1, by omega, rfl, ?_, fun x hx => ?_, rfl⟩⟩
      · simp only [push_cast, Nat.reduceBEq, Nat.reduceLeDiff]; rw [w64 (by omega) (by omega)]
      · rw [htk, List.mem_append, List.mem_singleton] at hx
        rcases hx with hx | rfl
        · exact hpc x hx
        · omega
    · have s5 : decide ((c.toNat : Int) = 47) = false := decide_eq_false (by omega)
      simp only [push_cast, Nat.reduceBEq, Nat.reduceLeDiff, Nat.reduceAdd, h108, qk, hbt, s1, s3, s5]
      exact ⟨⟨by omega, by omega⟩, hR _ _ ⟨rfl, hb03⟩⟩
  have qk : decide ((k : Int) < p.size) = false := decide_eq_false (by omega)
  rw [take_all p k (by omega)] at hpc
  simp only [push_cast, Nat.reduceBEq, Nat.reduceLeDiff, Nat.reduceAdd, h108, qk, bld38_2, bsl25, bld27]
  have s47 : (⟨#[47]⟩ : ByteArray).size = 1 := rfl
  refine ⟨by rw [s47]; omega, ?_⟩
  obtain ⟨w9, hw9⟩ : ∃ w9, w9 = al w8 [([Value.string ⟨#[104, 111, 115, 116]⟩, Value.string ⟨#[97, 115]⟩], 38)] := ⟨_, rfl⟩
  have hb9 : Below w8.heap.size w8 w9 := hw9 ▸ al_below _ _
  have hz9 : w9.heap.size = w8.heap.size + 1 := by rw [hw9, al_size]; rfl
  have ph : PairsV w9 (.slice (some ⟨w8.heap.size, 0, none⟩) 1 1) [(hostB, [97, 115])] := by
    refine ⟨_, _, rfl, fun j x hj => ?_⟩
    rcases j with _ | j
    · simp only [List.getElem?_cons_zero, Option.some.injEq] at hj
      subst hj
      exact ⟨_, _, rfl, by omega, by rw [hw9]; exact al_cell0 .., by rw [hw9]; exact al_cell0 ..⟩
    · simp at hj
  rw [← hw9]
  clear hw9
  have hb09 := hb03.trans (hb9.mono hb03.size)
  obtain ⟨r, hr⟩ : ∃ r : Req, r = ⟨toL m, 47 :: toL p, qs, [(hostB, [97, 115])], body⟩ := ⟨_, rfl⟩
  have hml := toL_len m
  have hpl := toL_len p
  have hat : ReqAt w9 (.agg #[.string m, .string (⟨#[47]⟩ ++ p), .slice Aq qs.length cq, .slice (some ⟨w8.heap.size, 0, none⟩) 1 1, .slice Ab body.length cb]) r := by
    rw [hr]
    refine ⟨_, _, _, ?_, pairsV_below pq hb09, ph, bytesAt_below pb hb09⟩
    simp only [mkS_toL]
    rw [show mkS (47 :: toL p) = ⟨#[47]⟩ ++ p from by apply toL_inj; rw [toL_mkS, toL_append]; rfl]
  have hmild : Mild r := by
    rw [hr]
    exact ⟨show (toL m).length ≤ _ by omega, show (47 :: toL p).length ≤ _ by simp; omega, show qs.length ≤ _ by omega, fun x hx => by have := (hgood x hx).2.2.2; omega, by simp, fun x hx => by rw [List.mem_singleton] at hx; subst hx; decide, show body.length ≤ _ by omega⟩
  have hplain : PlainR r := by
    rw [hr]
    exact ⟨fun h0 => by have h1 : toL m = [] := h0; rw [h1] at hml; simp at hml; omega, show (toL m).length ≤ _ by omega, fun c hc => up_mem c (hmet c hc).1 (hmet c hc).2, ⟨toL p, rfl, by omega, fun c hc => path_mem c (hpc c hc)⟩, show qs.length ≤ _ by omega, hgood, hnd, rfl, show body.length ≤ _ by omega⟩
  refine (ReqBytes_ _ r w9 hat hmild (hG.step hb09 hG.size)).mono ?_
  rintro e w10 ⟨hP, hb10⟩
  have q00 : decide ((0 : Int) = 0) = true := by decide
  rcases hP with ⟨_, vo, rfl, _⟩ | ⟨hs, _⟩
  · simp only [push_cast, Nat.reduceBEq, Nat.reduceLeDiff, Nat.reduceAdd, q00]
    exact hR _ _ ⟨rfl, hb09.trans (hb10.mono hb09.size)⟩
  · exact absurd (plain_read r hplain) hs
end Go.Proofs.YtciepffocobgpaaGreatDoor
