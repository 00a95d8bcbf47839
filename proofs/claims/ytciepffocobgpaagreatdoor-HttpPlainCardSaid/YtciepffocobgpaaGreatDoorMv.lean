/- What the rows' frame gives of slices of pairs and of requests. -/
import Derived.Test.YtciepffocobgpaaGreatDoorMf
import Derived.Test.YtciepffocobgpaaGreatDoorMu
import Derived.Deep.SlicePairs
/-! What a row's frame gives: slices of pairs and requests that came in. -/
namespace Go.Proofs.YtciepffocobgpaaGreatDoor
open Go Go.Sx
open Go.ChangeShapes Go.WideShapes Go.ChangeAt Go.RowKit
set_option linter.unusedVariables false
def strOf (v : Value) : Bytes := match v with | .string s => toL s | _ => []
theorem mem_weightsAll {H : Type} {P : Program} {e : TypeId} {x : Nat} {d : DataW H} : ∀ {l : List (DataW H)}, d ∈ l → x ∈ d.weights P e → x ∈ DataW.weightsAll P e l
  | [], h, _ => by cases h
  | y :: r, h, hx => by
    simp only [DataW.weightsAll]
    rcases List.mem_cons.1 h with rfl | h
    · exact List.mem_append_left _ hx
    · exact List.mem_append_right _ (mem_weightsAll h hx)
/-- A slice of structs of two strings that came in, as a list; each string is no longer than a machine bears. -/
theorem pairs_in {W : World} {H : Type} {enc : TypeId × Value → H} {base fuel : Nat} {v : Value} {d : DataW H} {p : List MemPlace} {t e : TypeId} {f0 f1 : Field}
    (ht : Tryz.prog.underlying t = some (.slice e)) (he : Tryz.prog.underlying e = some (.struct #[f0, f1])) (ce : Tryz.prog.cellsOf e = 2) (o0 : f0.offset = 0) (o1 : f1.offset = 1) (t0 : f0.type = 9) (t1 : f1.type = 9) (c9 : Tryz.prog.cellsOf 9 = 1)
    (h : DataW.trod enc Tryz.prog W base (fun _ => true) true fuel t [v] = some (d, p)) (hw : ∀ x ∈ d.weights Tryz.prog t, x ≤ reachBytes) :
    ∃ ps : List Pr, PairsV W v ps ∧ ∀ p ∈ ps, p.1.length ≤ 140737488355328 ∧ p.2.length ≤ 140737488355328 := by
  rcases Deep.open_slice_pairs ht he ce o0 o1 (by rw [t0]; exact c9) (by rw [t1]; exact c9) h with ⟨hcs, _⟩ | ⟨a, len, cap, m, n, V0, V1, D0, D1, P0, P1, hcs, _, hl, _, hm, hx, hi⟩
  · simp at hcs
    subst hcs
    exact ⟨[], ⟨none, 0, rfl, fun j p hj => by simp at hj⟩, fun p hp => by cases hp⟩
  · simp at hcs
    subst hcs
    have hm' : m = cap := by simpa using hm
    have each : ∀ i, i < len → W.cell? (a.add (i * 2)) = some (.string (mkS (strOf (V0 i)))) ∧ W.cell? (a.add (i * 2 + 1)) = some (.string (mkS (strOf (V1 i)))) ∧ D0 i = .lit (.string (strOf (V0 i))) ∧ D1 i = .lit (.string (strOf (V1 i))) := by
      intro i hil
      obtain ⟨h0, h1, g0, g1⟩ := hi i (by omega)
      rw [t0] at g0
      rw [t1] at g1
      obtain ⟨s0, e0, y0, _⟩ := DataW.trod_string Tryz.underlying9 g0
      obtain ⟨s1, e1, y1, _⟩ := DataW.trod_string Tryz.underlying9 g1
      simp at e0 e1 y0 y1
      refine ⟨by rw [h0, e0]; simp only [strOf, mkS_toL], by rw [h1, e1]; simp only [strOf, mkS_toL], ?_, ?_⟩
      · rw [y0.1, e0]; rfl
      · rw [y1.1, e1]; rfl
    refine ⟨(List.range len).map fun i => (strOf (V0 i), strOf (V1 i)), ⟨some a, cap, by rw [List.length_map, List.length_range], fun j q hj => ?_⟩, fun q hq => ?_⟩
    · rw [List.getElem?_map] at hj
      obtain ⟨i, hi1, rfl⟩ := Option.map_eq_some_iff.1 hj
      have hjl := (List.getElem?_eq_some_iff.1 hi1)
      obtain ⟨hjl, hji⟩ := hjl
      rw [List.getElem_range] at hji
      subst hji
      rw [List.length_range] at hjl
      obtain ⟨q0, q1, _, _⟩ := each j hjl
      obtain ⟨b, o, sp⟩ := a
      have hsp : sp = none := Go.Proofs.cell_spot (w := W) (b := b) (o := o) (sp := sp) (each 0 (by omega)).1
      subst hsp
      rw [Addr.add_lit] at q0 q1
      exact ⟨b, o, rfl, World.block_lt_of_cell? W ⟨b, o + j * 2, none⟩ q0, q0, q1⟩
    · obtain ⟨i, hi1, rfl⟩ := List.mem_map.1 hq
      rw [List.mem_range] at hi1
      obtain ⟨_, _, y0, y1⟩ := each i hi1
      have hd : d = (.slice ((List.range len).map fun i => .agg [D0 i, D1 i]) ((List.range (m - len)).map fun j => .agg [D0 (len + j), D1 (len + j)])) := (Prod.ext_iff.1 hx).1
      have key : ∀ x, x ∈ (DataW.agg [D0 i, D1 i]).weights Tryz.prog e → x ≤ reachBytes := by
        intro x hxx
        refine hw x ?_
        rw [hd]
        simp only [DataW.weights, ht]
        exact List.mem_cons_of_mem _ (List.mem_append_left _ (mem_weightsAll (List.mem_map.2 ⟨i, List.mem_range.2 hi1, rfl⟩) hxx))
      simp only [DataW.weights, he, y0, y1, List.map_cons, List.map_nil, DataW.weightsEach, List.append_nil] at key
      have k0 := key (strOf (V0 i)).length (by simp)
      have k1 := key (strOf (V1 i)).length (by simp)
      have hr : reachBytes ≤ 140737488355328 := by decide
      exact ⟨Nat.le_trans k0 hr, Nat.le_trans k1 hr⟩
theorem fld27 : (Tryz.prog.fieldsOf 27).toList.map (fun f => (f.type, f.offset)) = [(9, 0), (9, 1), (24, 2), (25, 3), (22, 4)] := by kernel_rfl
theorem und27 : Tryz.prog.underlying 27 = some (.struct (Tryz.prog.fieldsOf 27)) := by kernel_rfl
theorem und41 : Tryz.prog.underlying 41 = some (.struct #[(Tryz.prog.fieldsOf 41).getD 0 default, (Tryz.prog.fieldsOf 41).getD 1 default]) := by kernel_rfl
theorem und38 : Tryz.prog.underlying 38 = some (.struct #[(Tryz.prog.fieldsOf 38).getD 0 default, (Tryz.prog.fieldsOf 38).getD 1 default]) := by kernel_rfl
theorem pairs24 {W : World} {H : Type} {enc : TypeId × Value → H} {base fuel : Nat} {v : Value} {d : DataW H} {p : List MemPlace}
    (h : DataW.trod enc Tryz.prog W base (fun _ => true) true fuel 24 [v] = some (d, p)) (hw : ∀ x ∈ d.weights Tryz.prog 24, x ≤ reachBytes) :
    ∃ ps : List Pr, PairsV W v ps ∧ ∀ p ∈ ps, p.1.length ≤ 140737488355328 ∧ p.2.length ≤ 140737488355328 :=
  pairs_in Tryz.underlying24 und41 (by kernel_rfl) (by kernel_rfl) (by kernel_rfl) (by kernel_rfl) (by kernel_rfl) (by kernel_rfl) h hw
theorem pairs25 {W : World} {H : Type} {enc : TypeId × Value → H} {base fuel : Nat} {v : Value} {d : DataW H} {p : List MemPlace}
    (h : DataW.trod enc Tryz.prog W base (fun _ => true) true fuel 25 [v] = some (d, p)) (hw : ∀ x ∈ d.weights Tryz.prog 25, x ≤ reachBytes) :
    ∃ ps : List Pr, PairsV W v ps ∧ ∀ p ∈ ps, p.1.length ≤ 140737488355328 ∧ p.2.length ≤ 140737488355328 :=
  pairs_in Tryz.underlying25 und38 (by kernel_rfl) (by kernel_rfl) (by kernel_rfl) (by kernel_rfl) (by kernel_rfl) (by kernel_rfl) h hw
theorem bytes22 {W : World} {H : Type} {enc : TypeId × Value → H} {base fuel : Nat} {v : Value} {d : DataW H} {p : List MemPlace}
    (h : DataW.trod enc Tryz.prog W base (fun _ => true) true fuel 22 [v] = some (d, p)) : ∃ l : Bytes, BytesAt W v l := by
  have hs : ∃ a len cap, v = .slice a len cap := by
    rcases open_ints Tryz.underlying22 Tryz.underlying5 (by kernel_rfl) h with ⟨hcs, _⟩ | ⟨x, l, c, zs, hcs, _⟩
    · simp at hcs; exact ⟨_, _, _, hcs⟩
    · simp at hcs; exact ⟨_, _, _, hcs⟩
  obtain ⟨a, len, cap, rfl⟩ := hs
  exact bytes_in ⟨fuel, h⟩
set_option maxRecDepth 100000 in
/-- A request that came in. -/
theorem req_in {W : World} {H : Type} {enc : TypeId × Value → H} {base fuel : Nat} {cs : Array Value} {d : DataW H} {p : List MemPlace}
    (h : DataW.trod enc Tryz.prog W base (fun _ => true) true fuel 27 (Value.agg cs).cells.toList = some (d, p)) (hw : ∀ x ∈ d.weights Tryz.prog 27, x ≤ reachBytes) :
    ∃ r : Req, ReqAt W (.agg cs) r ∧ (∀ p ∈ r.hdrs, p.1.length ≤ 140737488355328 ∧ p.2.length ≤ 140737488355328) ∧ (∀ p ∈ r.query, p.1.length ≤ 140737488355328 ∧ p.2.length ≤ 140737488355328) := by
  obtain ⟨xs, n, hn, hx, hlen, hxl, hf⟩ := DataW.trod_struct und27 h
  have hsz : (Tryz.prog.fieldsOf 27).size = 5 := by kernel_rfl
  have hc5 : Tryz.prog.cellsOf 27 = 5 := by kernel_rfl
  rw [hsz] at hxl
  rw [hc5] at hlen
  have hcs : (Value.agg cs).cells = cs := rfl
  rw [hcs] at hlen hf
  obtain ⟨l, hl⟩ : ∃ l, l = cs.toList := ⟨_, rfl⟩
  rw [← hl] at hlen hf
  match l, hlen, xs, hxl with
  | [v0, v1, v2, v3, v4], _, [y0, y1, y2, y3, y4], _ =>
    have hce : cs = #[v0, v1, v2, v3, v4] := by
      have := congrArg List.toArray hl
      simpa using this.symm
    have g : ∀ (i : Nat) (t o : Nat), (Tryz.prog.fieldsOf 27)[i]?.map (fun f => (f.type, f.offset)) = some (t, o) → Tryz.prog.cellsOf t = 1 → DataW.trod enc Tryz.prog W base (fun _ => true) true n t (([v0, v1, v2, v3, v4].drop o).take 1) = [y0, y1, y2, y3, y4][i]? := by
      intro i t o hi hc1
      obtain ⟨f, hf1, hf2⟩ := Option.map_eq_some_iff.1 hi
      simp only [Prod.mk.injEq] at hf2
      have := hf i f hf1
      rw [hf2.1, hf2.2, hc1] at this
      exact this
    have g0 := g 0 9 0 (by kernel_rfl) (by kernel_rfl)
    have g1 := g 1 9 1 (by kernel_rfl) (by kernel_rfl)
    have g2 := g 2 24 2 (by kernel_rfl) (by kernel_rfl)
    have g3 := g 3 25 3 (by kernel_rfl) (by kernel_rfl)
    have g4 := g 4 22 4 (by kernel_rfl) (by kernel_rfl)
    simp only [List.drop_zero, List.drop_succ_cons, List.take_succ_cons, List.take_zero, List.getElem?_cons_zero, List.getElem?_cons_succ] at g0 g1 g2 g3 g4
    obtain ⟨s0, e0, _, _⟩ := DataW.trod_string Tryz.underlying9 g0
    obtain ⟨s1, e1, _, _⟩ := DataW.trod_string Tryz.underlying9 g1
    simp at e0 e1
    subst e0 e1
    have hd : d = .agg [y0.1, y1.1, y2.1, y3.1, y4.1] := (Prod.ext_iff.1 hx).1
    have hfs : (Tryz.prog.fieldsOf 27).toList.map (·.type) = [9, 9, 24, 25, 22] := by kernel_rfl
    have hww : ∀ x, x ∈ y2.1.weights Tryz.prog 24 ∨ x ∈ y3.1.weights Tryz.prog 25 → x ≤ reachBytes := by
      intro x hxx
      refine hw x ?_
      rw [hd]
      simp only [DataW.weights, und27, hfs, DataW.weightsEach, List.mem_append]
      rcases hxx with hxx | hxx
      · exact .inr (.inr (.inl hxx))
      · exact .inr (.inr (.inr (.inl hxx)))
    obtain ⟨qs, hq1, hq2⟩ := pairs24 (d := y2.1) (p := y2.2) g2 (fun x hx => hww x (.inl hx))
    obtain ⟨hs, hh1, hh2⟩ := pairs25 (d := y3.1) (p := y3.2) g3 (fun x hx => hww x (.inr hx))
    obtain ⟨bs, hb1⟩ := bytes22 (d := y4.1) (p := y4.2) g4
    subst hce
    refine ⟨⟨toL s0, toL s1, qs, hs, bs⟩, ⟨v2, v3, v4, ?_, hq1, hh1, hb1⟩, hh2, hq2⟩
    simp only [mkS_toL]
end Go.Proofs.YtciepffocobgpaaGreatDoor
