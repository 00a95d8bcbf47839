/- HttpWrites, as its tied card states it: whatever request is given, the law returns true and its arguments read as they did; the listed package-level variables begin as the program's text lays them. -/
import Derived.Test.YtciepffocobgpaaGreatDoorMv
import Derived.Test.YtciepffocobgpaaGreatDoorMu
import Derived.Test.YtciepffocobgpaaGreatDoorCards
import Derived.Test.YtciepffocobgpaaGreatDoorTie
namespace Go.Proofs.YtciepffocobgpaaGreatDoor
open Go Go.Sx
open Go.ChangeShapes Go.WideShapes Go.ChangeAt Go.RowKit
set_option linter.unusedVariables false
set_option maxRecDepth 100000 in
theorem httpWrites_lifted (os : Os) (started : os.Started) (H : Type) (enc : TypeId × Value → H) (F : Stop.Interp) :
    ReturnsInHanded {} Tryz.checked os 6 .any ((OpenSpec.ofChange Rows.httpWritesSpec).preRow enc Tryz.prog Tryz.f6 Rows.httpWritesRow.domain false Rows.httpWritesRow.laid) (((OpenSpec.ofChange Rows.httpWritesSpec).at F).post enc Tryz.prog Tryz.f6 false true false false) := by
  have hx : ∃ places, DataW.whole enc Tryz.prog ((wit os).forCall (fun _ _ => 0) ⟨#[], #[.agg #[.string ⟨#[]⟩, .string ⟨#[]⟩, .slice none 0 0, .slice none 0 0, .slice none 0 0]], []⟩).memory Tryz.f6.params.toList Rows.httpWritesSpec.vars false #[Value.agg #[.string ⟨#[]⟩, .string ⟨#[]⟩, .slice none 0 0, .slice none 0 0, .slice none 0 0]].toList 8 = some ([.agg [.lit (.string []), .lit (.string []), .nil, .nil, .nil]], [], places) := ⟨[], by kernel_rfl⟩
  obtain ⟨places, hx⟩ := hx
  refine returnsInHanded_of_row (C := Tryz.checked) (s := OpenSpec.ofChange Rows.httpWritesSpec) ownK started (by kernel_rfl) Tryz.func6
    ⟨wit os, fun _ _ => 0, ⟨#[], #[.agg #[.string ⟨#[]⟩, .string ⟨#[]⟩, .slice none 0 0, .slice none 0 0, .slice none 0 0]], []⟩, World.laidAll_os _ _ _, wit_shaped os _, rfl, (Input.okWide_of_okWideB (base := 0) (by kernel_rfl)).2,
      OpenSpec.preRow_of_cond 8 hx (by kernel_rfl) (fun k hk => by cases hk) (by kernel_rfl) (wit_laid os _), by
        simp only [Assume.holds]
        exact ⟨by simp, by simp, fun _ => Modest.zero, by simp, by simp⟩⟩ ?_
  intro W base args ds gs before hval hW _ _ hZ hL hS _
  have hW' := hW
  obtain ⟨p, q, hA0, hV, rfl, hfz, hnd⟩ := hW
  have hA : DataW.TrodAll enc Tryz.prog W 0 (fun _ => true) true Tryz.f6.params.toList args.toList ds p := hA0
  rw [Tryz.params6] at hA hval
  obtain ⟨v0, vs0, d0, ds0, p0, q0, hargs, rfl, rfl, h0, r0⟩ := trodAll_cons hA
  obtain ⟨rfl, rfl, rfl⟩ := trodAll_nil r0
  obtain rfl : args = #[v0] := by cases args; simp_all
  obtain ⟨rfl, rfl⟩ := trodVars_none hV
  have hv0 := hval 0 27 v0 rfl rfl


  obtain ⟨cs0, rfl, _⟩ := okWide_struct (P := Tryz.prog) und27 hv0
  have k0 := h0
  have lt0 : ∀ x ∈ p0, x.block < W.heap.size := by obtain ⟨m, hm⟩ := k0; exact DataW.trod_lt m _ _ _ hm
  have hww : ∀ x ∈ d0.weights Tryz.prog 27, x ≤ reachBytes := by
    intro x hx
    have hz0 := hZ
    rw [Tryz.params6] at hz0
    have := List.all_eq_true.1 hz0 x (by
      show x ∈ DataW.weightsEach Tryz.prog (27 :: _) (d0 :: _)
      simp only [DataW.weightsEach, List.mem_append]
      exact .inl hx)
    exact of_decide_eq_true this
  obtain ⟨m0, hm0⟩ := h0
  obtain ⟨r, hr, hz1, hz2⟩ := req_in hm0 hww
  clear hA0
  refine (HttpWrites_ _ r W (G_of hL hS) hr hz1 hz2).mono fun e W' ⟨he, bel⟩ => ?_
  subst he
  exact ⟨_, rfl, _, _, _, [], _, [], hW', trodAll_mk1 (shut_bool Tryz.underlying4 _), (trodAll_cons_mk (Below.trod laidOutK (by kernel_rfl) (of_decide_eq_true (by kernel_rfl)) k0 bel lt0) trodAll_mk0), rfl, bel.frame _, fun h => by cases h⟩
theorem httpWrites_said : Rows.HttpWritesSaid :=
  OpenClaim.holds_of_cond 6 Tryz.f6 rfl rfl rfl rfl rfl rfl rfl ⟨rfl, rfl, rfl, rfl, rfl⟩ rfl rfl rfl rfl rfl (by kernel_rfl) Tryz.func6 (by kernel_rfl)
    (of_decide_eq_true (by kernel_rfl)) (by unfold Func.isWrapper; first | (rw [if_pos (by decide +kernel)]; kernel_rfl) | (rw [if_neg (by decide +kernel)]; exact ⟨rfl, rfl⟩))
    (fun os started H enc _ F => by rw [OpenClaim.pre_eq_preRow]; exact httpWrites_lifted os started H enc F)
theorem httpWrites_plain (f : FuncId) (fn : Func) (hf : Tryz.pinned.checked.prog.funcNamed "klaxon/klaxonlaw27.HttpWrites" = some f) (hfn : Tryz.pinned.checked.prog.funcs[f]? = some fn) :
    true = Tryz.pinned.checked.prog.looks [] ∧ ∀ (j : Nat) t, fn.params[j]? = some t → Tryz.pinned.checked.prog.wantsStandIn t = false := by
  obtain rfl : f = 6 := Option.some.inj ((show Tryz.prog.funcNamed "klaxon/klaxonlaw27.HttpWrites" = some 6 by kernel_rfl).symm.trans hf) |>.symm
  obtain rfl : fn = Tryz.f6 := (Option.some.inj (Tryz.func6.symm.trans hfn)).symm
  refine ⟨by kernel_rfl, fun j t ht => ?_⟩
  rw [Tryz.params6] at ht
  obtain rfl : t = 27 := by simpa using Array.mem_of_getElem? ht
  exact (show Tryz.prog.wantsStandIn 27 = false by kernel_rfl)
theorem httpWrites_card : Rows.HttpWritesCardSaid :=
  Claim7.holds_tied_plain_at .later [] _ _ _ _ httpWrites_said (fun _ h => by cases h) (by kernel_rfl) (fun _ h => by cases h) httpWrites_row_tie rfl ⟨rfl, rfl⟩ (by kernel_rfl) rfl httpWrites_plain (by kernel_rfl)
#print axioms httpWrites_card
end Go.Proofs.YtciepffocobgpaaGreatDoor
