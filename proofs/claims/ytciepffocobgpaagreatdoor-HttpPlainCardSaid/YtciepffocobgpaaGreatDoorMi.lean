/- The contracts of ParseAnswer. -/
import Derived.Test.YtciepffocobgpaaGreatDoorMh
namespace Go.Proofs.YtciepffocobgpaaGreatDoor
open Go Go.Sx Go.RowKit
set_option linter.unusedSimpArgs false
set_option linter.unusedVariables false
/-- An answer's block: a status, a body. -/
structure RA (w : World) (b : Nat) (v0 v1 : Value) : Prop where
  c0 : w.cell? ⟨b, 0, none⟩ = some v0
  c1 : w.cell? ⟨b, 1, none⟩ = some v1
  f : ∀ i, w.frozen? ⟨b, i, none⟩ = false
theorem RA.step {w w' : World} {B b : Nat} {v0 v1 : Value} (h : RA w b v0 v1) (hb : Below B w w') (hlt : b < B) : RA w' b v0 v1 :=
  ⟨(hb.cell (p := ⟨b, 0, none⟩) hlt).trans h.c0, (hb.cell (p := ⟨b, 1, none⟩) hlt).trans h.c1, fun i => (hb.frozen (p := ⟨b, i, none⟩) hlt).trans (h.f i)⟩
theorem RA.set0 {w : World} {b : Nat} {v0 v1 : Value} (h : RA w b v0 v1) (v : Value) : RA (w.setCell ⟨b, 0, none⟩ v) b v v1 :=
  ⟨by rw [sc_cell, h.c0]; rfl, by rw [sc_cell]; exact h.c1, fun i => by rw [sc_frz]; exact h.f i⟩
theorem RA.set1 {w : World} {b : Nat} {v0 v1 : Value} (h : RA w b v0 v1) (v : Value) : RA (w.setCell ⟨b, 1, none⟩ v) b v0 v :=
  ⟨by rw [sc_cell]; exact h.c0, by rw [sc_cell, h.c1]; rfl, fun i => by rw [sc_frz]; exact h.f i⟩
theorem RA.far {w : World} {b b2 i : Nat} {v0 v1 x : Value} (h : RA w b v0 v1) (hne : b2 ≠ b) : RA (w.setCell ⟨b2, i, none⟩ x) b v0 v1 :=
  ⟨(World.cell?_setCell_far w ⟨b2, i, none⟩ ⟨b, 0, none⟩ x hne).trans h.c0, (World.cell?_setCell_far w ⟨b2, i, none⟩ ⟨b, 1, none⟩ x hne).trans h.c1, fun j => by rw [sc_frz]; exact h.f j⟩
def y1W (w : World) (b : Nat) : World := World.setCell w (Addr.mk b 0 none) (Value.int .i64 0)
def y2W (w : World) (b : Nat) : World := World.setCell (y1W w b) (Addr.mk b 1 none) (Value.slice none 0 0)
def y3W (w : World) (b b2 : Nat) (er : Int) : World := World.setCell (y2W w b) (Addr.mk b2 0 none) (Value.int .i64 er)
theorem catchA_fin {w w8 : World} {k1 b b2 : Nat} {v0 v1 u : Value} (hb8 : Below k1 w w8) (hk : b ≤ k1) (hR8' : RA w8 b v0 v1) (hc8 : w8.cell? ⟨b2, 0, none⟩ = some u) (hbb : b < b2) (er : Int) :
    Below b w (y3W w8 b b2 er).drew ∧ RA (y3W w8 b b2 er).drew b (.int .i64 0) (.slice none 0 0) ∧ (y3W w8 b b2 er).drew.cell? ⟨b2, 0, none⟩ = some (.int .i64 er) := by
  have n5 : b ≠ b2 := by omega
  have B1 : Below b w (y1W w8 b) := by unfold y1W; exact (hb8.mono hk).setCell (p := Addr.mk b 0 none) (Nat.le_refl _) _
  have B2 : Below b w (y2W w8 b) := by unfold y2W; exact B1.setCell (p := Addr.mk b 1 none) (Nat.le_refl _) _
  have B6 : Below b w (y3W w8 b b2 er) := by unfold y3W; exact B2.setCell (p := Addr.mk b2 0 none) (Nat.le_of_lt hbb) _
  have R1 : RA (y1W w8 b) b (.int .i64 0) v1 := by unfold y1W; exact hR8'.set0 _
  have R2 : RA (y2W w8 b) b (.int .i64 0) (.slice none 0 0) := by unfold y2W; exact R1.set1 _
  have R6 : RA (y3W w8 b b2 er) b (.int .i64 0) (.slice none 0 0) := by unfold y3W; exact R2.far (Ne.symm n5)
  have c1 : (y1W w8 b).cell? ⟨b2, 0, none⟩ = some u := by unfold y1W; exact (World.cell?_setCell_far _ (Addr.mk b 0 none) ⟨b2, 0, none⟩ _ n5).trans hc8
  have c2 : (y2W w8 b).cell? ⟨b2, 0, none⟩ = some u := by unfold y2W; exact (World.cell?_setCell_far _ (Addr.mk b 1 none) ⟨b2, 0, none⟩ _ n5).trans c1
  have c6 : (y3W w8 b b2 er).cell? ⟨b2, 0, none⟩ = some (.int .i64 er) := by unfold y3W; rw [sc_cell, c2]; rfl
  clear B1 B2 R1 R2 c1 c2
  generalize y3W w8 b b2 er = w9 at *
  exact ⟨B6.drew, ⟨R6.c0, R6.c1, R6.f⟩, c6⟩
set_option maxHeartbeats 1000000 in
theorem catchA_die (b b2 : Nat) (er : Int) (older : List PanicEntry) (w : World) (v0 v1 u : Value) (hR : RA w b v0 v1) (hc2 : w.cell? ⟨b2, 0, none⟩ = some u) (hf2 : w.frozen? ⟨b2, 0, none⟩ = false) (hbb : b < b2) (hb2 : b2 < w.heap.size) :
    CallsD Tryz.prog 61 #[.pointer (some ⟨b, 0, none⟩), .pointer (some ⟨b2, 0, none⟩)] (.panicking ({ v := .iface 83 (.agg #[.int .i64 er]), recovered := false } :: older)) w fun e u' w' =>
      e = .returned (.tuple #[]) ∧ u' = .panicking ({ v := .iface 83 (.agg #[.int .i64 er]), recovered := true } :: older) ∧
      (Below b w w' ∧ RA w' b (.int .i64 0) (.slice none 0 0) ∧ w'.cell? ⟨b2, 0, none⟩ = some (.int .i64 er)) := by
  refine callsD_of_wpS Tryz.func61 rfl fun c₀ cs hu => ?_
  apply wpS_seq
  apply wpS_region
  simp [wpOpsS, go_sem, recoverD, hu, Tryz.ntmps61, Exit.thenS]
  refine tail_X (N := 15) (fun w' => (Below b w w' ∧ RA w' b (.int .i64 0) (.slice none 0 0) ∧ w'.cell? ⟨b2, 0, none⟩ = some (.int .i64 er))) (al := [.pointer (some ⟨b, 0, none⟩), .pointer (some ⟨b2, 0, none⟩), undef, undef, undef, undef, .iface 83 (.agg #[.int .i64 er]), undef, undef, undef, undef, undef, undef, undef, undef]) rfl rfl rfl (by kernel_rfl) rfl rfl ?_ ?_
  · generalize hS : (fun w' => (Below b w w' ∧ RA w' b (.int .i64 0) (.slice none 0 0) ∧ w'.cell? ⟨b2, 0, none⟩ = some (.int .i64 er))) = S
    simp only [push_cast, Nat.reduceBEq, Nat.reduceLeDiff, Nat.reduceAdd, tailP_n, ap_eq_iface, eq83, ta83]
    intro hwf a hs he
    have ht := tmps_eq a 15 hs _ he
    obtain ⟨tm, df⟩ := a
    simp only [List.range, List.range.loop, List.map_cons, List.map_nil, push_cast, Nat.reduceBEq, Nat.reduceLeDiff, Nat.reduceAdd] at ht
    subst ht
    clear he hs hwf hu
    generalize hQ : lift 15 _ _ = Q
    have hQ' : ∀ tm' w', tm'.size = 15 → S w' → Q .normal ⟨tm', df⟩ w' := by
      intro tm' w' h1 h2
      rw [← hQ]
      exact ⟨rfl, h1, by simp only [push_cast, tailP_n]; exact h2⟩
    clear hQ
    have hlt : b < w.heap.size := by omega
    have e1 : (al w [([Value.int IntKind.i64 er], 83), ([.int .i64 0, .slice none 0 0], 45)]).cell? ⟨w.heap.size, 0, none⟩ = some (.int .i64 er) := al_cell0 ..
    have z0 : (al w [([Value.int IntKind.i64 er], 83), ([.int .i64 0, .slice none 0 0], 45)]).cell? ⟨w.heap.size + 1, 0, none⟩ = some (.int .i64 0) := al_cell ..
    have z1 : (al w [([Value.int IntKind.i64 er], 83), ([.int .i64 0, .slice none 0 0], 45)]).cell? ⟨w.heap.size + 1, 1, none⟩ = some (.slice none 0 0) := al_cell ..
    have hR8 := hR.step (al_below w [([Value.int IntKind.i64 er], 83), ([.int .i64 0, .slice none 0 0], 45)]) hlt
    have hc8 := ((al_below w [([Value.int IntKind.i64 er], 83), ([.int .i64 0, .slice none 0 0], 45)]).cell (p := ⟨b2, 0, none⟩) hb2).trans hc2
    have hf8 := ((al_below w [([Value.int IntKind.i64 er], 83), ([.int .i64 0, .slice none 0 0], 45)]).frozen (p := ⟨b2, 0, none⟩) hb2).trans hf2
    have hb8 := al_below w [([Value.int IntKind.i64 er], 83), ([.int .i64 0, .slice none 0 0], 45)]
    generalize al w [([Value.int IntKind.i64 er], 83), ([.int .i64 0, .slice none 0 0], 45)] = w8 at e1 z0 z1 hR8 hc8 hf8 hb8 ⊢
    obtain ⟨y0, y1, yf⟩ := hR8
    have g0 := yf 0
    have g1 := yf 1
    have n1 : b ≠ w.heap.size := by omega
    have n2 : b ≠ w.heap.size + 1 := by omega
    have n3 : b2 ≠ w.heap.size := by omega
    have n4 : b2 ≠ w.heap.size + 1 := by omega
    have n5 : b ≠ b2 := by omega
    generalize w.heap.size = k1 at *
    generalize k1 + 1 = k2 at *
    clear hc2 hf2 hR
    have hfin := catchA_fin hb8 (show b ≤ k1 by omega) ⟨y0, y1, yf⟩ hc8 hbb er
    have hfin2 : S (y3W w8 b b2 er).drew := by rw [← hS]; exact hfin
    clear hS hfin yf
    go_region
    exact hQ' _ _ rfl hfin2
  · rintro w' h
    exact ⟨rfl, rfl, h⟩
theorem catchA_idle (b b2 : Nat) (w : World) :
    CallsD Tryz.prog 61 #[.pointer (some ⟨b, 0, none⟩), .pointer (some ⟨b2, 0, none⟩)] .returning w fun e u' w' => e = .returned (.tuple #[]) ∧ u' = .returning ∧ w' = w := by
  refine callsD_of_wpS Tryz.func61 rfl fun c₀ cs hu => ?_
  apply wpS_seq
  apply wpS_region
  simp [wpOpsS, go_sem, recoverD, hu, Tryz.ntmps61, Exit.thenS]
  refine tail_X (N := 15) (fun w' => w' = w) (al := [.pointer (some ⟨b, 0, none⟩), .pointer (some ⟨b2, 0, none⟩), undef, undef, undef, undef, .nilIface, undef, undef, undef, undef, undef, undef, undef, undef]) rfl rfl rfl (by kernel_rfl) rfl rfl ?_ ?_
  · simp only [push_cast, Nat.reduceBEq, Nat.reduceLeDiff, Nat.reduceAdd, tailP_n, ap_eq_nil, eqnil]
  · rintro w' rfl
    exact ⟨rfl, hu, rfl⟩
def f1W (w : World) (b : Nat) (v : Value) : World := World.setCell w (Addr.mk b 0 none) v
def f2W (w : World) (b : Nat) (v0 v : Value) : World := World.setCell (f1W w b v0) (Addr.mk b 1 none) v
def f3W (w : World) (b : Nat) (v0 v1 : Value) : World := World.setCell (f2W w b v0 v1) (Addr.mk (b + 1) 0 none) (Value.int .i64 0)
theorem two {w1 : World} {b : Nat} {x0 x1 u : Value} (v0 v1 : Value) (hR : RA w1 b x0 x1) (hc : w1.cell? ⟨b + 1, 0, none⟩ = some u) :
    RA (f3W w1 b v0 v1) b v0 v1 ∧ (f2W w1 b v0 v1).cell? ⟨b + 1, 0, none⟩ = some u ∧ (f3W w1 b v0 v1).cell? ⟨b + 1, 0, none⟩ = some (.int .i64 0) ∧
    (∀ k, k ≠ b → k ≠ b + 1 → (f3W w1 b v0 v1).heap[k]? = w1.heap[k]?) ∧ (f3W w1 b v0 v1).heap.size = w1.heap.size ∧ Below b w1 (f3W w1 b v0 v1) := by
  have n5 : b ≠ b + 1 := by omega
  have R1 : RA (f1W w1 b v0) b v0 x1 := by unfold f1W; exact hR.set0 _
  have R2 : RA (f2W w1 b v0 v1) b v0 v1 := by unfold f2W; exact R1.set1 _
  have R6 : RA (f3W w1 b v0 v1) b v0 v1 := by unfold f3W; exact R2.far (by omega)
  have c1 : (f1W w1 b v0).cell? ⟨b + 1, 0, none⟩ = some u := by unfold f1W; exact (World.cell?_setCell_far _ (Addr.mk b 0 none) ⟨b + 1, 0, none⟩ _ n5).trans hc
  have c2 : (f2W w1 b v0 v1).cell? ⟨b + 1, 0, none⟩ = some u := by unfold f2W; exact (World.cell?_setCell_far _ (Addr.mk b 1 none) ⟨b + 1, 0, none⟩ _ n5).trans c1
  have c6 : (f3W w1 b v0 v1).cell? ⟨b + 1, 0, none⟩ = some (.int .i64 0) := by unfold f3W; rw [sc_cell, c2]; rfl
  have hh : ∀ k, k ≠ b → k ≠ b + 1 → (f3W w1 b v0 v1).heap[k]? = w1.heap[k]? := by
    intro k h1 h2
    unfold f3W f2W f1W
    rw [Below.heap_setCell _ _ _ _ h2, Below.heap_setCell _ _ _ _ h1, Below.heap_setCell _ _ _ _ h1]
  have hs : (f3W w1 b v0 v1).heap.size = w1.heap.size := by
    unfold f3W f2W f1W
    rw [sc_size, sc_size, sc_size]
  refine ⟨R6, c2, c6, hh, hs, ?_⟩
  have B1 : Below b w1 (f1W w1 b v0) := by unfold f1W; exact (Below.refl _ _).setCell (p := Addr.mk b 0 none) (Nat.le_refl _) _
  have B2 : Below b w1 (f2W w1 b v0 v1) := by unfold f2W; exact B1.setCell (p := Addr.mk b 1 none) (Nat.le_refl _) _
  unfold f3W; exact B2.setCell (p := Addr.mk (b + 1) 0 none) (Nat.le_succ _) _
set_option maxHeartbeats 2000000 in
theorem caughtA_gen (f : FuncId) (hf : hasBody Tryz.prog f = true) (s : ByteArray) (w : World) (Post : Ending → World → Prop)
    (hcall : ∀ w0, Below w.heap.size w w0 → w0.heap.size = w.heap.size + 2 → Calls Tryz.prog f #[.string s] w0 fun e w1 => Below w0.heap.size w0 w1 ∧
      ((∃ v0 v1, e = .returned (.agg #[v0, v1]) ∧ (Cl v0 ∧ Cl v1) ∧ ∀ w', w1.heap.size ≤ w'.heap.size → Below w.heap.size w w' → (∀ k, k ≠ w.heap.size → k ≠ w.heap.size + 1 → w'.heap[k]? = w1.heap[k]?) → Post (.returned (.tuple #[.agg #[v0, v1], .int .i64 0])) w') ∨
       (∃ er, e = die er ∧ ∀ w', Below w.heap.size w w' → Post (.returned (.tuple #[.agg #[.int .i64 0, .slice none 0 0], .int .i64 er])) w'))) :
    Calls Tryz.prog 30 #[.func (.func f) #[] #[], .string s] w Post := by
  have hmf : ∀ (fn : Fn) (first cap : Array Value) (w : World), (Instr.makeFunc fn first cap).run Tryz.prog w = .ok (.func fn first cap) w := fun _ _ _ _ => rfl
  refine calls_of_wp_defers Tryz.func30 rfl ?_
  refine wp_seq_X (N := 10) (al := [.func (.func f) #[] #[], .string s, undef, undef, undef, undef, undef, undef, undef, undef]) rfl rfl (by kernel_rfl) ?_
  simp only [push_cast, Nat.reduceBEq, Nat.reduceLeDiff, Nat.reduceAdd, tailE_n]
  rintro ⟨tm, df⟩ hd hs he
  have ht := tmps_eq _ 10 hs _ he
  simp only [List.range, List.range.loop, List.map_cons, List.map_nil, push_cast, Nat.reduceBEq, Nat.reduceLeDiff, Nat.reduceAdd] at ht
  simp only at hd
  subst ht hd
  clear hs he
  refine wp_seq (wp_region ?_)
  simp [wpOps, go_sem]
  refine .inl (.inl ?_)
  have hb0 := al_below w [([Value.int .i64 0, .slice none 0 0], 45), ([.int .i64 0], 28)]
  have hs0 : (al w [([Value.int .i64 0, .slice none 0 0], 45), ([.int .i64 0], 28)]).heap.size = w.heap.size + 2 := by rw [al_size]; rfl
  have hA : RA (al w [([Value.int .i64 0, .slice none 0 0], 45), ([.int .i64 0], 28)]) w.heap.size (.int .i64 0) (.slice none 0 0) :=
    ⟨al_cell0 .., al_cell0 .., fun i => al_frz0 ..⟩
  have hE : (al w [([Value.int .i64 0, .slice none 0 0], 45), ([.int .i64 0], 28)]).cell? ⟨w.heap.size + 1, 0, none⟩ = some (.int .i64 0) := al_cell ..
  have hEf : (al w [([Value.int .i64 0, .slice none 0 0], 45), ([.int .i64 0], 28)]).frozen? ⟨w.heap.size + 1, 0, none⟩ = false := al_frz ..
  generalize al w [([Value.int .i64 0, .slice none 0 0], 45), ([.int .i64 0], 28)] = w0 at hb0 hs0 hA hE hEf ⊢
  have hc := hcall w0 hb0 hs0
  generalize hbk : w.heap.size = b at *
  let Sok : World → Prop := fun w' => ∃ v0 v1, RA w' b v0 v1 ∧ w'.cell? ⟨b + 1, 0, none⟩ = some (.int .i64 0) ∧ Post (.returned (.tuple #[.agg #[v0, v1], .int .i64 0])) w'
  let Sdie : Int → World → Prop := fun er w' => Below b w w' ∧ b + 2 ≤ w'.heap.size ∧ RA w' b (.int .i64 0) (.slice none 0 0) ∧ w'.cell? ⟨b + 1, 0, none⟩ = some (.int .i64 0) ∧ w'.frozen? ⟨b + 1, 0, none⟩ = false ∧ ∀ w'', Below b w w'' → Post (.returned (.tuple #[.agg #[.int .i64 0, .slice none 0 0], .int .i64 er])) w''
  refine wp_mono (x_sound (N := 10) _ (capE b Sok Sdie) _ _ (by kernel_rfl) rfl ?_) ?_
  · generalize hSok : Sok = S1
    generalize hSdie : Sdie = S2
    rw [envOf_lit]
    simp only [push_cast, Nat.reduceBEq, Nat.reduceLeDiff, Nat.reduceAdd, hf]
    refine hc.mono ?_
    rintro e w1 ⟨hb1, hcase⟩
    have hA1 := hA.step hb1 (by omega)
    have hE1 := (hb1.cell (p := ⟨b + 1, 0, none⟩) (by show b + 1 < _; omega)).trans hE
    have hEf1 := (hb1.frozen (p := ⟨b + 1, 0, none⟩) (by show b + 1 < _; omega)).trans hEf
    have hs1 := hb1.size
    rcases hcase with ⟨v0, v1, rfl, hcl, hP⟩ | ⟨er, rfl, hP⟩
    · obtain ⟨⟨a0, b0⟩, ⟨a1, b1⟩⟩ := hcl
      simp only [push_cast, Nat.reduceBEq, Nat.reduceLeDiff, Nat.reduceAdd, a0, a1, b0, b1, hA1.c0, hA1.c1, hA1.f]
      obtain ⟨hRf, hcf, hcf2, hhf, hsf, hbf⟩ := two v0 v1 hA1 hE1
      refine ⟨?_, hEf1, ?_⟩
      · have : ((f2W w1 b v0 v1).cell? ⟨b + 1, 0, none⟩).isSome = true := by rw [hcf]; rfl
        exact this
      · rw [capE_r, ← hSok]
        have hb6 : Below b w (f3W w1 b v0 v1) := (hb0.trans (hb1.mono (by omega))).trans hbf
        have hfin := hP (f3W w1 b v0 v1) (by omega) hb6 hhf
        exact ⟨⟨rfl, rfl⟩, v0, v1, hRf, hcf2, hfin⟩
    · simp only [die]
      simp only [push_cast, Nat.reduceBEq, Nat.reduceLeDiff, Nat.reduceAdd]
      rw [← hSdie]
      refine ⟨er, rfl, ⟨rfl, rfl⟩, ?_⟩
      exact ⟨hb0.trans (hb1.mono (by omega)), by omega, hA1, hE1, hEf1, hP⟩
  · rintro ex a' w' ⟨hd, hsz, hq⟩
    cases ex with
    | ret =>
      obtain ⟨⟨h4, h5⟩, v0, v1, hR', hc', hPost⟩ := hq
      show Leaves _ _ _ _ a'.defers .returning w'
      rw [hd]
      refine leaves_cons (f := 61) (args := #[.pointer (some ⟨b, 0, none⟩), .pointer (some ⟨b + 1, 0, none⟩)]) (by simp) (by simp [go_sem]) ?_
      refine (catchA_idle b (b + 1) w').mono ?_
      rintro e u' w'' ⟨rfl, rfl, rfl⟩
      have hres : resX Tryz.prog (envOf a') w'' Tryz.f30.results.toList (fun vs => Post (.returned (tupleOf vs)) w'') := by
        show resX Tryz.prog (envOf a') w'' [.cell 4 45, .cell 5 28] _
        simp only [push_cast, h4, h5, hR'.c0, hR'.c1, hc']
        exact hPost
      obtain ⟨vs, h1, h2⟩ := res_run hres
      exact ⟨_, h1, h2⟩
    | panic ch =>
      obtain ⟨er, rfl, ⟨h4, h5⟩, hbw, hsz2, hR', hc', hf', hPost⟩ := hq
      show Leaves _ _ _ _ a'.defers (.panicking _) w'
      rw [hd]
      refine leaves_cons (f := 61) (args := #[.pointer (some ⟨b, 0, none⟩), .pointer (some ⟨b + 1, 0, none⟩)]) (by simp) (by simp [go_sem]) ?_
      refine (catchA_die b (b + 1) er [] w' _ _ _ hR' hc' hf' (by omega) (by omega)).mono ?_
      rintro e u' w'' ⟨rfl, rfl, hb2, hR2, hc2⟩
      have hres : resX Tryz.prog (envOf a') w'' Tryz.f30.results.toList (fun vs => Post (.returned (tupleOf vs)) w'') := by
        show resX Tryz.prog (envOf a') w'' [.cell 4 45, .cell 5 28] _
        simp only [push_cast, h4, h5, hR2.c0, hR2.c1, hc2]
        exact hPost _ (hbw.trans hb2)
      obtain ⟨vs, h1, h2⟩ := res_run hres
      exact ⟨_, h1, h2⟩
    | normal => exact hq.elim
    | exit i => exact hq.elim
    | goto i => exact hq.elim
    | outgrown => exact hq.elim
end Go.Proofs.YtciepffocobgpaaGreatDoor
namespace Go.Proofs.YtciepffocobgpaaGreatDoor
open Go Go.Sx Go.RowKit
set_option linter.unusedSimpArgs false
set_option linter.unusedVariables false
def verB : Bytes := [72, 84, 84, 80, 47, 49, 46, 49, 32]
/-- A status, out of an answer's first line. -/
def ansLine (l : Bytes) : Option Int :=
  if Lib.hasPrefix l verB = true then
    if 4 ≤ (l.drop 9).length then
      if ofB digC 3 ((l.drop 9).take 3) = true then
        if (l.drop 9)[3]? = some 32 then
          if shownB ((l.drop 9).drop 4) = true then some (decN ((l.drop 9).take 3)) else none
        else none
      else none
    else none
  else none
def ansS (s : Bytes) : Except Int (Int × Bytes) :=
  if 81920 < s.length then .error 11 else
  match cutLine s with
  | none => .error 31
  | some (l, rest) =>
    match ansLine l with
    | none => .error 31
    | some n =>
      match hdrsS (rest.length + 1) [] rest with
      | .error e => .error e
      | .ok (h, rest2) =>
        match bodyS h rest2 65536 with
        | .error e => .error e
        | .ok b => .ok (n, b)
def AnsPost (o : Except Int (Int × Bytes)) (e : Ending) (w w' : World) : Prop :=
  match o with
  | .ok (n, b) => ∃ vb, e = .returned (.agg #[.int .i64 n, vb]) ∧ (BytesAt w' vb b ∧ FreshV w.heap.size vb)
  | .error er => e = die er
theorem bld45 (n : Int) (A : Option Addr) (x c : Nat) (w : World) : Sem.run Tryz.prog (Instr.build 45 #[(0, .int .i64 n), (1, .slice A x c)]) w = .ok (.agg #[.int .i64 n, .slice A x c]) w := by kernel_rfl
theorem trim_ver (l : Bytes) (h : Lib.hasPrefix l verB = true) : Lib.trimPrefix l verB = l.drop 9 := by rw [Lib.trimPrefix, if_pos h]; rfl
set_option maxHeartbeats 1000000 in
theorem answer_ (s : ByteArray) (w : World) (hG : G w) :
    Calls Tryz.prog 31 #[.string s] w fun e w' => AnsPost (ansS (toL s)) e w w' ∧ Below w.heap.size w w' := by
  have hG9 := hG.size
  refine calls_X Tryz.func31 rfl Tryz.ntmps31 Tryz.results31 rfl rfl (by kernel_rfl) fun R hR => ?_
  simp only [push_cast, Nat.reduceBEq, Nat.reduceLeDiff, Nat.reduceAdd]
  have hb0 : Below w.heap.size w (al w [([Value.int .i64 0, .slice none 0 0], 45)]) := al_below _ _
  have hs0 : (al w [([Value.int .i64 0, .slice none 0 0], 45)]).heap.size = w.heap.size + 1 := by rw [al_size]; rfl
  have hA : RA (al w [([Value.int .i64 0, .slice none 0 0], 45)]) w.heap.size (.int .i64 0) (.slice none 0 0) := ⟨al_cell0 .., al_cell0 .., fun i => al_frz0 ..⟩
  generalize al w [([Value.int .i64 0, .slice none 0 0], 45)] = w0 at hb0 hs0 hA ⊢
  have hG0 := hG.step hb0 hG9
  by_cases hlen : 81920 < s.size
  · rw [decide_eq_false (show ¬ ((s.size : Int) ≤ 81920) by omega)]
    refine (must_f _ _).mono ?_
    rintro e w3 ⟨rfl, rfl⟩
    simp only [push_cast, Nat.reduceBEq, Nat.reduceLeDiff, Nat.reduceAdd]
    exact hR _ _ ⟨by rw [ansS, if_pos (by rw [toL_len]; exact hlen)]; rfl, hb0⟩
  rw [decide_eq_true (show ((s.size : Int) ≤ 81920) by omega)]
  have hS : ansS (toL s) = match cutLine (toL s) with
      | none => .error 31
      | some (l, rest) =>
        match ansLine l with
        | none => .error 31
        | some n =>
          match hdrsS (rest.length + 1) [] rest with
          | .error e => .error e
          | .ok (h, rest2) =>
            match bodyS h rest2 65536 with
            | .error e => .error e
            | .ok b => .ok (n, b) := by rw [ansS, if_neg (by rw [toL_len]; exact hlen)]
  refine (must_t _ _).mono ?_
  rintro e w1 ⟨rfl, rfl⟩
  simp only [push_cast, Nat.reduceBEq, Nat.reduceLeDiff, Nat.reduceAdd]
  obtain ⟨m, hm⟩ := hG0.max
  refine (line_ s m (by omega) w0 hm).mono ?_
  rintro e w1 ⟨rfl, hb1⟩
  have hs1 := hb1.size
  have hb01 := hb0.trans (hb1.mono hb0.size)
  have hG1 := hG0.step hb1 hG0.size
  cases hc : cutLine (toL s) with
  | none =>
    rw [hc] at hS
    simp only [push_cast, Nat.reduceBEq, Nat.reduceLeDiff, Nat.reduceAdd, die]
    exact hR _ _ ⟨by rw [hS]; rfl, hb01⟩
  | some lr =>
  obtain ⟨l, rest⟩ := lr
  rw [hc] at hS
  simp only at hS
  have hlr := cutLine_len hc
  rw [toL_len] at hlr
  have hA1 := hA.step hb1 (by omega)
  simp only [push_cast, Nat.reduceBEq, Nat.reduceLeDiff, Nat.reduceAdd]
  refine (Tryz.strings_CutPrefix (mkS l) _ w1).mono ?_
  rintro e wx ⟨rfl, hwx⟩
  rw [hwx]
  clear hwx wx
  rw [show (mkS l).data.toList = l from toL_mkS l, show (⟨#[72, 84, 84, 80, 47, 49, 46, 49, 32]⟩ : ByteArray).data.toList = verB from rfl]
  have hno : ansLine l = none → ∀ w2, Below w.heap.size w w2 → R (.panicked [{ v := .iface 83 (.agg #[.int .i64 31]), recovered := false }]) w2 := fun h w2 hb => hR _ _ ⟨by rw [hS, h]; rfl, hb⟩
  cases hpre : Lib.hasPrefix l verB with
  | false =>
    have hL : ansLine l = none := by rw [ansLine, hpre, if_neg (by decide)]
    simp only [push_cast, Nat.reduceBEq, Nat.reduceLeDiff, Nat.reduceAdd]
    refine (must_f _ _).mono ?_
    rintro e w3 ⟨rfl, rfl⟩
    simp only [push_cast, Nat.reduceBEq, Nat.reduceLeDiff, Nat.reduceAdd]
    exact hno hL _ hb01
  | true =>
  rw [trim_ver l hpre, show (⟨(l.drop 9).toArray⟩ : ByteArray) = mkS (l.drop 9) from rfl]
  have hld : (l.drop 9).length ≤ 81920 := by rw [List.length_drop]; omega
  have hL0 : ansLine l = if 4 ≤ (l.drop 9).length then
      if ofB digC 3 ((l.drop 9).take 3) = true then
        if (l.drop 9)[3]? = some 32 then
          if shownB ((l.drop 9).drop 4) = true then some (decN ((l.drop 9).take 3) : Int) else none
        else none
      else none
    else none := by rw [ansLine, if_pos hpre]
  generalize l.drop 9 = t at hld hL0
  by_cases h4 : 4 ≤ t.length
  case neg =>
    rw [if_neg h4] at hL0
    have q1 : decide (4 ≤ (t.length : Int)) = false := decide_eq_false (by omega)
    simp only [push_cast, Nat.reduceBEq, Nat.reduceLeDiff, Nat.reduceAdd, size_mkS, q1, Bool.and_false]
    refine (must_f _ _).mono ?_
    rintro e w3 ⟨rfl, rfl⟩
    simp only [push_cast, Nat.reduceBEq, Nat.reduceLeDiff, Nat.reduceAdd]
    exact hno hL0 _ hb01
  rw [if_pos h4] at hL0
  have q1 : decide (4 ≤ (t.length : Int)) = true := decide_eq_true (by omega)
  have ex3 : (mkS t).extract 0 (3 : Int).toNat = mkS (t.take 3) := by rw [← mkS_toL ((mkS t).extract 0 (3 : Int).toNat), toL_extract, toL_mkS, List.drop_zero]; rfl
  have ex4 : (mkS t).extract (4 : Int).toNat t.length = mkS (t.drop 4) := by rw [← mkS_toL ((mkS t).extract (4 : Int).toNat t.length), toL_extract, toL_mkS, List.take_length]; rfl
  simp only [push_cast, Nat.reduceBEq, Nat.reduceLeDiff, Nat.reduceAdd, size_mkS, q1, Bool.and_self, ex3]
  refine ⟨by omega, (of_C (mkS (t.take 3)) digC 3 (by decide) (by decide) (by rw [size_mkS, List.length_take]; omega) w1 hG1).mono ?_⟩
  rintro e w2 ⟨rfl, hb2⟩
  rw [toL_mkS]
  have hb02 := hb01.trans (hb2.mono (by omega))
  have hG2 := hG1.step hb2 hG1.size
  have hs2 := hb2.size
  have hA2 := hA1.step hb2 (by omega)
  cases ho : ofB digC 3 (t.take 3) with
  | false =>
    rw [ho, if_neg (by decide)] at hL0
    simp only [push_cast, Nat.reduceBEq, Nat.reduceLeDiff, Nat.reduceAdd, size_mkS, q1, Bool.and_self, Bool.and_false]
    refine (must_f _ _).mono ?_
    rintro e w3 ⟨rfl, rfl⟩
    simp only [push_cast, Nat.reduceBEq, Nat.reduceLeDiff, Nat.reduceAdd]
    exact hno hL0 _ hb02
  | true =>
  rw [ho, if_pos rfl] at hL0
  have h3 : 3 < t.length := by omega
  have hx : t[3]? = some t[3] := List.getElem?_eq_getElem h3
  have hbt : bt (mkS t) 3 = ((t[3]).toNat : Int) := by
    have := bt_get (mkS t) 3 (by rw [toL_mkS]; exact h3)
    simp only [toL_mkS] at this; exact this
  generalize t[3] = x at hx hbt
  have e32 : ((x.toNat : Int) = 32) ↔ x = 32 := u8_eq x 32
  rw [hx] at hL0
  by_cases hx32 : x = 32
  case neg =>
    rw [if_neg (by simpa using hx32)] at hL0
    have q2 : decide ((x.toNat : Int) = 32) = false := decide_eq_false (by rw [e32]; exact hx32)
    simp only [push_cast, Nat.reduceBEq, Nat.reduceLeDiff, Nat.reduceAdd, size_mkS, q1, q2, hbt, Bool.and_self, Bool.and_false]
    refine ⟨by omega, (must_f _ _).mono ?_⟩
    rintro e w3 ⟨rfl, rfl⟩
    simp only [push_cast, Nat.reduceBEq, Nat.reduceLeDiff, Nat.reduceAdd]
    exact hno hL0 _ hb02
  rw [if_pos (by simpa using hx32)] at hL0
  have q2 : decide ((x.toNat : Int) = 32) = true := decide_eq_true (e32.2 hx32)
  simp only [push_cast, Nat.reduceBEq, Nat.reduceLeDiff, Nat.reduceAdd, size_mkS, q1, q2, hbt, Bool.and_self, ex4]
  refine ⟨by omega, by omega, (shown_ (mkS (t.drop 4)) (by rw [size_mkS, List.length_drop]; omega) w2).mono ?_⟩
  rintro e w3 ⟨rfl, hb3⟩
  rw [toL_mkS]
  have hb03 := hb02.trans (hb3.mono (by omega))
  have hG3 := hG2.step hb3 hG2.size
  have hs3 := hb3.size
  have hA3 := hA2.step hb3 (by omega)
  cases hsh : shownB (t.drop 4) with
  | false =>
    rw [hsh, if_neg (by decide)] at hL0
    simp only [push_cast, Nat.reduceBEq, Nat.reduceLeDiff, Nat.reduceAdd, size_mkS, q1, q2, Bool.and_self, Bool.and_false]
    refine (must_f _ _).mono ?_
    rintro e w4 ⟨rfl, rfl⟩
    simp only [push_cast, Nat.reduceBEq, Nat.reduceLeDiff, Nat.reduceAdd]
    exact hno hL0 _ hb03
  | true =>
  rw [hsh, if_pos rfl] at hL0
  rw [hL0] at hS
  simp only at hS
  clear hno
  simp only [push_cast, Nat.reduceBEq, Nat.reduceLeDiff, Nat.reduceAdd, size_mkS, q1, q2, Bool.and_self]
  refine (must_t _ _).mono ?_
  rintro e w4 ⟨rfl, rfl⟩
  obtain ⟨o1, o2, o3⟩ := ofB_len ho
  simp only [push_cast, Nat.reduceBEq, Nat.reduceLeDiff, Nat.reduceAdd, size_mkS, ex3]
  generalize t.take 3 = d at *
  refine ⟨by omega, (Tryz.strconv_Atoi (mkS d) (decN d) (by rw [size_mkS]; omega) (by rw [show (mkS d).data.toList = d from toL_mkS d]; exact decN_atoi d o2 o3) w3).mono ?_⟩
  rintro e w4 ⟨rfl, tt, hw4⟩
  have hb4 : Below w3.heap.size w3 w4 := by rw [hw4]; exact bytesW_below w3 tt
  clear hw4
  have hb04 := hb03.trans (hb4.mono (by omega))
  have hG4 := hG3.step hb4 hG3.size
  have hs4 := hb4.size
  have hA4 := hA3.step hb4 (by omega)
  simp only [push_cast, Nat.reduceBEq, Nat.reduceLeDiff, Nat.reduceAdd]
  refine (headers_ (mkS rest) (by rw [size_mkS]; omega) w4 hG4).mono ?_
  rintro e w5 ⟨hH, hb5⟩
  rw [toL_mkS] at hH
  have hs5 := hb5.size
  have hb05 := hb04.trans (hb5.mono hb04.size)
  have hA5 := hA4.step hb5 (by omega)
  have hG5 := hG4.step hb5 (by omega)
  cases hh : hdrsS (rest.length + 1) [] rest with
  | error er =>
    rw [hh] at hH hS
    simp only [HdrsPost, die] at hH
    subst hH
    simp only [push_cast, Nat.reduceBEq, Nat.reduceLeDiff, Nat.reduceAdd]
    exact hR _ _ ⟨by rw [hS]; rfl, hb05⟩
  | ok hr =>
  obtain ⟨hs', rest2⟩ := hr
  rw [hh] at hH hS
  simp only at hS
  obtain ⟨vh, rfl, hh5, hfh, hhl, hhs, hr2⟩ := hH
  rw [size_mkS] at hhs hr2
  simp only [push_cast, Nat.reduceBEq, Nat.reduceLeDiff, Nat.reduceAdd]
  refine (body_ vh hs' (mkS rest2) 65536 w5 hh5 (by omega) (fun p hp => ⟨by have := (hhs p hp).1; omega, by have := (hhs p hp).2; omega⟩) (by rw [size_mkS]; omega) hG5).mono ?_
  rintro e w6 ⟨hBP, hb6⟩
  rw [toL_mkS] at hBP
  have hs6 := hb6.size
  have hb06 := hb05.trans (hb6.mono hb05.size)
  have hA6 := hA5.step hb6 (by omega)
  cases hbd : bodyS hs' rest2 65536 with
  | error er =>
    rw [hbd] at hBP hS
    simp only [BodyPost, die] at hBP
    subst hBP
    simp only [push_cast, Nat.reduceBEq, Nat.reduceLeDiff, Nat.reduceAdd]
    exact hR _ _ ⟨by rw [hS]; rfl, hb06⟩
  | ok bb =>
  rw [hbd] at hBP hS
  obtain ⟨vb, rfl, hvb, b6, c6, rfl, hb6'⟩ := hBP
  simp only [push_cast, Nat.reduceBEq, Nat.reduceLeDiff, Nat.reduceAdd, bld45, hA6.c0, hA6.c1, hA6.f]
  have fb : FreshV (w.heap.size + 1) (.slice (some ⟨b6, 0, none⟩) bb.length c6) := by show w.heap.size + 1 ≤ b6; omega
  refine hR _ _ ⟨?_, (hb06.setCell (p := ⟨w.heap.size, 0, none⟩) (Nat.le_refl _) _).setCell (p := ⟨w.heap.size, 1, none⟩) (Nat.le_refl _) _⟩
  rw [hS]
  exact ⟨_, rfl, bytesAt_set (bytesAt_set hvb fb (Nat.lt_succ_self _)) fb (Nat.lt_succ_self _), by show w.heap.size ≤ b6; omega⟩
def CaughtA (o : Except Int (Int × Bytes)) (e : Ending) (w w' : World) : Prop :=
  match o with
  | .ok (n, b) => ∃ vb, e = .returned (.tuple #[.agg #[.int .i64 n, vb], .int .i64 0]) ∧ (BytesAt w' vb b ∧ FreshV w.heap.size vb)
  | .error er => e = .returned (.tuple #[.agg #[.int .i64 0, .slice none 0 0], .int .i64 er])
theorem cl_int (n : Int) : Cl (.int .i64 n) := ⟨rfl, rfl⟩
theorem caught_ans (s : ByteArray) (w : World) (hG : G w) :
    Calls Tryz.prog 30 #[.func (.func 31) #[] #[], .string s] w fun e w' => CaughtA (ansS (toL s)) e w w' ∧ Below w.heap.size w w' := by
  refine caughtA_gen 31 (by kernel_rfl) s w _ fun w0 hb0 hs0 => ?_
  refine (answer_ s w0 (hG.step hb0 hG.size)).mono ?_
  rintro e w1 ⟨hP, hb1⟩
  refine ⟨hb1, ?_⟩
  have hs1 := hb1.size
  cases hr : ansS (toL s) with
  | error er =>
    rw [hr] at hP
    exact .inr ⟨er, hP, fun w' hb => ⟨rfl, hb⟩⟩
  | ok r =>
    obtain ⟨n, b⟩ := r
    rw [hr] at hP
    obtain ⟨vb, rfl, hb, hbf⟩ := hP
    refine .inl ⟨_, vb, rfl, ⟨cl_int _, cl_bytes hb⟩, fun w' h1 h2 h3 => ⟨?_, h2⟩⟩
    have hk : ∀ k, w0.heap.size ≤ k → w'.heap[k]? = w1.heap[k]? := fun k hk => h3 k (by omega) (by omega)
    exact ⟨vb, rfl, bytesAt_heap hb hbf hk h1, hbf.mono (by omega)⟩
theorem ParseAnswer_ (v : Value) (l : Bytes) (w : World) (hG : G w) (hv : BytesAt w v l) :
    Calls Tryz.prog 13 #[v] w fun e w' => CaughtA (ansS l) e w w' ∧ Below w.heap.size w w' := by
  obtain ⟨A, c, rfl, hcells⟩ := bytesAt_shape hv
  refine calls_X Tryz.func13 rfl Tryz.ntmps13 Tryz.results13 rfl rfl (by kernel_rfl) fun R hR => ?_
  simp only [push_cast, Nat.reduceBEq, Nat.reduceLeDiff, Nat.reduceAdd]
  have hb0 := al_below w [([Value.int .i64 0, .slice none 0 0], 45)]
  have hs0 : (al w [([Value.int .i64 0, .slice none 0 0], 45)]).heap.size = w.heap.size + 1 := by rw [al_size]; rfl
  have hA : RA (al w [([Value.int .i64 0, .slice none 0 0], 45)]) w.heap.size (.int .i64 0) (.slice none 0 0) := ⟨al_cell0 .., al_cell0 .., fun i => al_frz0 ..⟩
  generalize al w [([Value.int .i64 0, .slice none 0 0], 45)] = w0 at hb0 hs0 hA ⊢
  simp only [push_cast, conv_back (bytesAt_below hv hb0)]
  refine (caught_ans (mkS l) w0 (hG.step hb0 hG.size)).mono ?_
  rintro e w1 ⟨hP, hb1⟩
  rw [toL_mkS] at hP
  have hs1 := hb1.size
  have hA1 := hA.step hb1 (by omega)
  have hb01 := hb0.trans (hb1.mono hb0.size)
  cases hr : ansS l with
  | error er =>
    rw [hr] at hP
    simp only [CaughtA] at hP
    subst hP
    simp only [push_cast, Nat.reduceBEq, Nat.reduceLeDiff, Nat.reduceAdd, hA1.c0, hA1.c1, hA1.f]
    exact hR _ _ ⟨by rw [hr]; rfl, (hb01.setCell (p := ⟨w.heap.size, 0, none⟩) (Nat.le_refl _) _).setCell (p := ⟨w.heap.size, 1, none⟩) (Nat.le_refl _) _⟩
  | ok r =>
    obtain ⟨n, b⟩ := r
    rw [hr] at hP
    obtain ⟨vb, rfl, hb, hbf⟩ := hP
    obtain ⟨b1, b2⟩ := cl_bytes hb
    simp only [push_cast, Nat.reduceBEq, Nat.reduceLeDiff, Nat.reduceAdd, hA1.c0, hA1.c1, hA1.f, b1, b2]
    have f3 : FreshV (w.heap.size + 1) vb := hbf.mono (by omega)
    refine hR _ _ ⟨?_, (hb01.setCell (p := ⟨w.heap.size, 0, none⟩) (Nat.le_refl _) _).setCell (p := ⟨w.heap.size, 1, none⟩) (Nat.le_refl _) _⟩
    rw [hr]
    exact ⟨vb, rfl, bytesAt_set (bytesAt_set hb f3 (Nat.lt_succ_self _)) f3 (Nat.lt_succ_self _), f3.mono (by omega)⟩
end Go.Proofs.YtciepffocobgpaaGreatDoor
