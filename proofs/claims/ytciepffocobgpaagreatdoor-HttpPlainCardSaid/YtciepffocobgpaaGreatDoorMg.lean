/- Regions that draw their order, planned. -/
import Derived.Test.YtciepffocobgpaaGreatDoorMa
/-! Regions that draw their order: reads of a class of worlds are taken at once, calls and what makes memory in every order. -/
namespace Go.Sx
open Go Go.RowKit
set_option linter.unusedVariables false
set_option linter.unusedSimpArgs false
section
variable (P : Program) (md : Region.Mode) (ops : Array Oper) (C : World → Prop) (Q : Exit → Act → World → Prop)
/-- As wpAny; each step stays in the class. -/
def wpAnyC : Nat → Array Bool → Act → World → Prop
  | 0, l, a, w => Region.ready md ops l = [] ∧ Q .normal a w
  | f + 1, l, a, w => (Region.ready md ops l = [] → Q .normal a w) ∧ ∀ i ∈ Region.ready md ops l, wpOp P ops Q i (fun a' w' => C w' ∧ wpAnyC f (l.setIfInBounds i true) a' w') a w
end
section
variable {P : Program} {md : Region.Mode} {ops : Array Oper} {C : World → Prop} {Q : Exit → Act → World → Prop}
theorem wpAnyC_any : ∀ (f : Nat) (l : Array Bool) (a : Act) (w : World), wpAnyC P md ops C Q f l a w → wpAny P md ops Q f l a w
  | 0, _, _, _, h => h
  | f + 1, l, a, w, h => ⟨h.1, fun i hi => wpOp_mono (fun a' w' hh => wpAnyC_any f _ a' w' hh.2) (h.2 i hi)⟩
def YieldsC (P : Program) (ops : Array Oper) (C : World → Prop) (o : Oper) (v : Value) (a : Act) : Prop :=
  (Region.wanted o (yielded ops a.tmps) = true ∧ ∀ w, C w → (execOp a.eval o).run P w = .ok (.value v) w) ∨
  (Region.wanted o (yielded ops a.tmps) = false ∧ v = undef)
theorem YieldsC.wpOp {i : Nat} {o : Oper} {v : Value} {a : Act} (hi : ops[i]? = some o) (hy : YieldsC P ops C o v a)
    {K : Act → World → Prop} {w : World} (hC : C w) (h : K (a.put o.dst v) w) : wpOp P ops Q i K a w := by
  unfold Go.wpOp
  simp only [hi]
  rcases hy with ⟨hw, hv⟩ | ⟨hw, rfl⟩
  · simp only [hw, if_true, Oper.wp, hv w hC, Oper.upon]; exact .inl h
  · simp only [hw, Bool.false_eq_true, if_false]; exact h
theorem YieldsC.of_same {o : Oper} {v : Value} {a a' : Act} (hy : YieldsC P ops C o v a) (he : execOp a'.eval o = execOp a.eval o)
    (hw : Region.wanted o (yielded ops a'.tmps) = Region.wanted o (yielded ops a.tmps)) : YieldsC P ops C o v a' := by
  unfold YieldsC at *
  rw [he, hw]
  exact hy
theorem wpOp_putC {j : Nat} {oi oj : Oper} {v : Value} (hj : ops[j]? = some oj) (hap : oi.apart ops oj = true)
    (hsi : ∀ cs b, oi.op ≠ .select cs b) (hsj : ∀ cs b, oj.op ≠ .select cs b)
    (hQ : ∀ c a w, Q (.panic c) (a.put oi.dst v) w → Q (.panic c) a w) {K : Act → World → Prop} {a : Act} {w : World}
    (hy : YieldsC P ops C oi v a) (h : wpOp P ops Q j K (a.put oi.dst v) w) :
    wpOp P ops Q j (fun a' w' => YieldsC P ops C oi v a' ∧ K (a'.put oi.dst v) w') a w := by
  obtain ⟨h1, h2, h3⟩ := Oper.apart_spec hap
  have keep : ∀ (a : Act), YieldsC P ops C oi v a → ∀ u, YieldsC P ops C oi v (a.put oj.dst u) := fun a hy u =>
    hy.of_same (execOp_put oi hsi a oj.dst u h3) (wanted_put oi a oj.dst u h3)
  have keepD : ∀ d, YieldsC P ops C oi v { a with defers := d :: a.defers } := fun d => hy.of_same rfl rfl
  unfold wpOp at *
  simp only [hj] at *
  rw [wanted_put oj a oi.dst v h1] at h
  split
  · rename_i hw
    simp only [hw, if_true] at h
    rcases h with h | ⟨hasks, hlets⟩
    case inr => exact .inr ⟨by unfold Oper.asks at *; rw [execOp_put oj hsj a oi.dst v h1] at hasks; exact hasks, hlets⟩
    refine .inl ?_
    unfold Oper.wp at *
    rw [execOp_put oj hsj a oi.dst v h1] at h
    generalize (execOp a.eval oj).run P w = r at *
    cases r with
    | ok n w' =>
      cases n <;> simp only [Oper.upon] at h ⊢
      case value u => exact ⟨keep a hy u, by rw [← Act.put_comm a v u h2]; exact h⟩
      case skip => exact ⟨keep a hy _, by rw [← Act.put_comm a v undef h2]; exact h⟩
      case defer d =>
        refine ⟨keep _ (keepD d) _, ?_⟩
        rw [← Act.put_comm _ v undef h2, ← Act.put_defers]
        exact h
      case enter f args =>
        refine Calls.mono h fun e w'' he => ?_
        cases e with
        | returned u => exact ⟨keep a hy u, by rw [← Act.put_comm a v u h2]; exact he⟩
        | panicked c => exact hQ _ _ _ he
        | outgrown => exact he
      case row row args => exact Rows.mono h fun u w'' he => ⟨keep a hy u, by rw [← Act.put_comm a v u h2]; exact he⟩
    | halt x w' =>
      cases x <;> simp only [Oper.upon] at h ⊢
      case panic u => exact hQ _ _ _ h
  · rename_i hw
    simp only [hw] at h
    exact ⟨keep a hy _, by rw [← Act.put_comm a v undef h2]; exact h⟩
theorem wpAnyC_first {i : Nat} {oi : Oper} {v : Value} (hi : ops[i]? = some oi) (hsel : ∀ (j : Nat) (o : Oper) cs b, ops[j]? = some o → o.op ≠ .select cs b)
    (hQ : ∀ c a w, Q (.panic c) (a.put oi.dst v) w → Q (.panic c) a w) :
    ∀ (fuel : Nat) (listed : Array Bool) (a : Act) (w : World), C w →
      (∀ j oj, ops[j]? = some oj → j ≠ i → listed.getD j true = false → (∀ e ∈ oj.after, Region.binds md e = true → e.on ≠ i) → oi.apart ops oj = true) →
      i ∈ Region.ready md ops listed → YieldsC P ops C oi v a →
      wpAnyC P md ops C Q fuel (listed.setIfInBounds i true) (a.put oi.dst v) w → wpAnyC P md ops C Q (fuel + 1) listed a w := by
  intro fuel
  induction fuel with
  | zero =>
    intro listed a w hC _ hr hy H
    refine ⟨fun h => (by rw [h] at hr; cases hr), fun j hj => ?_⟩
    by_cases hji : j = i
    · subst hji; exact hy.wpOp hi hC ⟨hC, H⟩
    · have := ready_mono hj hji
      rw [H.1] at this
      cases this
  | succ fuel ih =>
    intro listed a w hC hfree hr hy H
    refine ⟨fun h => (by rw [h] at hr; cases hr), fun j hj => ?_⟩
    by_cases hji : j = i
    · subst hji; exact hy.wpOp hi hC ⟨hC, H⟩
    · have h1 := H.2 j (ready_mono hj hji)
      obtain ⟨hjun, oj, hoj, hall⟩ := mem_ready.1 hj
      have hnot : ∀ e ∈ oj.after, Region.binds md e = true → e.on ≠ i := fun e he hb heq => by
        have h1 := hall e he hb
        have h0 := (mem_ready.1 hr).1
        rw [heq] at h1
        rcases Nat.lt_or_ge i listed.size with h' | h'
        · simp [h'] at h0 h1; rw [h0] at h1; cases h1
        · simp [Array.getElem?_eq_none h'] at h1
      have h2 := wpOp_putC hoj (hfree j oj hoj hji hjun hnot) (fun cs b => hsel i oi cs b hi) (fun cs b => hsel j oj cs b hoj) hQ hy h1
      have hfree' : ∀ k ok, ops[k]? = some ok → k ≠ i → (listed.setIfInBounds j true).getD k true = false →
          (∀ e ∈ ok.after, Region.binds md e = true → e.on ≠ i) → oi.apart ops ok = true := fun k ok hk hki hun hno => by
        refine hfree k ok hk hki ?_ hno
        by_cases hjk : j = k
        · subst hjk; exact hjun
        · rw [getD_set_ne true hjk] at hun; exact hun
      refine wpOp_mono (fun a' w' h3 => ⟨h3.2.1, ih (listed.setIfInBounds j true) a' w' h3.2.1 hfree' (ready_mono hr (Ne.symm hji)) h3.1 ?_⟩) h2
      rw [Array.setIfInBounds_comm _ _ hji]
      exact h3.2.2
end
def notCall : OK → Bool | .call => false | _ => true
def Pl.okC (md : Region.Mode) (ops : Array Oper) : Bool → Pl → Array Bool → Bool
  | true, .done, l => (Region.ready md ops l).isEmpty
  | true, .take i p, l => Region.free md ops l i && (Region.ready md ops l).contains i && ((ops[i]?).map fun o => notCall (kOf o)).getD false && p.okC md ops true (l.setIfInBounds i true)
  | true, .alt i p r, l => (Pl.alt i p r).heads == Region.ready md ops l && p.okC md ops true (l.setIfInBounds i true) && r.okC md ops false l
  | false, .alt i p r, l => p.okC md ops true (l.setIfInBounds i true) && r.okC md ops false l
  | false, .nil, _ => true
  | _, _, _ => false
theorem binRun_quo (t : TypeId) (g : Bool) (k : IntKind) (a b : Int) : binRun .quo t g (.int k a) (.int k b) = Op.intDiv .quo k a b := by cases g <;> simp [binRun, binOp_quo] <;> rfl
theorem binRun_rem (t : TypeId) (g : Bool) (k : IntKind) (a b : Int) : binRun .rem t g (.int k a) (.int k b) = Op.intDiv .rem k a b := by cases g <;> simp [binRun, binOp_rem] <;> rfl
theorem b_quo (P : Program) (t : TypeId) (g : Bool) (k : IntKind) (a b : Int) (w : World) (c : Cont) (h : (b == 0) = false) : ap P (.bin .quo t g) [.int k a, .int k b] w c = c.K (.int k (k.wrap (a.tdiv b))) w := by
  rw [show ap P (.bin .quo t g) [.int k a, .int k b] w c = getR ((binRun .quo t g (.int k a) (.int k b)).run P w) c from rfl, binRun_quo, Op.intDiv, if_neg (by simpa using h)]
  simp only [getR_pure]
theorem b_rem (P : Program) (t : TypeId) (g : Bool) (k : IntKind) (a b : Int) (w : World) (c : Cont) (h : (b == 0) = false) : ap P (.bin .rem t g) [.int k a, .int k b] w c = c.K (.int k (a.tmod b)) w := by
  rw [show ap P (.bin .rem t g) [.int k a, .int k b] w c = getR ((binRun .rem t g (.int k a) (.int k b)).run P w) c from rfl, binRun_rem, Op.intDiv, if_neg (by simpa using h)]
  simp only [getR_pure]
/-- A binary operation that ends in a value in every world. -/
def binQ (P : Program) (op : BinOp) (t : TypeId) (g : Bool) (x y : Value) (K : Value → Prop) : Prop := ∃ v, (∀ w, (binRun op t g x y).run P w = .ok v w) ∧ K v
theorem binQ_eq {P : Program} {op : BinOp} {t : TypeId} {g : Bool} {x y v : Value} (h : ∀ w, (binRun op t g x y).run P w = .ok v w) (K : Value → Prop) : binQ P op t g x y K = K v := by
  refine propext ⟨fun ⟨v', h', hK⟩ => ?_, fun hK => ⟨v, h, hK⟩⟩
  have := (h' default).symm.trans (h default)
  simp only [Result.ok.injEq, and_true] at this
  exact this ▸ hK
/-- As aq; quotients and remainders beside, shifts to the right and bits that both have. -/
def aqD (P : Program) (C : World → Prop) (w : World) (k : OK) (xs : List Value) (K : Value → Prop) : Prop :=
  match k, xs with
  | .bin .quo t g, [.int q a, .int q' b] => q' = q ∧ (b == 0) = false ∧ K (.int q (q.wrap (a.tdiv b)))
  | .bin .rem t g, [.int q a, .int q' b] => q' = q ∧ (b == 0) = false ∧ K (.int q (a.tmod b))
  | .bin .shr t g, [.int q a, .int q' b] => binQ P .shr t g (.int q a) (.int q' b) K
  | .bin .and t g, [.int q a, .int q' b] => binQ P .and t g (.int q a) (.int q' b) K
  | .bin .neq t g, [.agg xs, .agg ys] => binQ P .neq t g (.agg xs) (.agg ys) K
  | k, xs => aq P C w k xs K
def opTC (P : Program) (all : Array Oper) (C : World → Prop) (o : Oper) (e : Env) (w : World) (K : Value → Prop) : Prop :=
  match o.guard with
  | none => aqD P C w (kOf o) ((aOf o).map (ev e)) K
  | some (j, want) => ∃ t, (all[j]?).bind (·.dst) = some t ∧ aqG P C w (kOf o) ((aOf o).map (ev e)) (wantedB (e t) want) K
def XC (P : Program) (all : Array Oper) (C : World → Prop) (K : Env → World → Prop) : Pl → Env → World → Prop
  | .done, e, w => K e w
  | .take i p, e, w => ∃ o, all[i]? = some o ∧ opTC P all C o e w fun v => XC P all C K p (put e o.dst v) w
  | .alt i p r, e, w => (∃ o, all[i]? = some o ∧ opA P all o e w ⟨fun v w' => C w' ∧ XC P all C K p (put e o.dst v) w', fun _ _ => False⟩) ∧ XC P all C K r e w
  | .nil, _, _ => True
theorem takeC_yields {P : Program} {C : World → Prop} {o : Oper} {a : Act} {K : Value → Prop} {w0 : World} (hn : notCall (kOf o) = true) (h : aq P C w0 (kOf o) ((aOf o).map (ev (envOf a))) K) :
    ∃ v, (∀ w, C w → (execOp a.eval o).run P w = .ok (.value v) w) ∧ K v := by
  have hp' : (pureOK (kOf o) ((aOf o).map (ev (envOf a))) = true ∧ ap P (kOf o) ((aOf o).map (ev (envOf a))) w0 (cK K)) ∨ ∃ v, (∀ w, C w → (execOp (ev (envOf a)) o).run P w = .ok (.value v) w) ∧ K v := by
    unfold aq at h
    split at h
    · rename_i t hk
      obtain ⟨x, hx⟩ := kOf_load hk
      have ha : aOf o = [x] := by unfold aOf; rw [hx]
      rw [ha] at h
      have h' : asPtr (ev (envOf a) x) fun ad => ldQ C (ldK P t) ad K := h
      unfold asPtr at h'
      split at h'
      case h_2 => exact h'.elim
      rename_i ad had
      have run_of : ∀ (v : Value) (w : World), ldX (ldK P t) ad w (· = v) → (execOp (ev (envOf a)) o).run P w = .ok (.value v) w := by
        intro v w hl
        obtain ⟨u, h1, h2⟩ := ldX_sound hl
        subst h2
        unfold execOp
        rw [hx]
        simp only [had, Instr.loadAt, Instr.sureAddr, pure_bind, Sem.run_bind, h1, Result.andThen, Sem.run_pure]
      unfold ldQ at h'
      split at h'
      · rename_i hl
        obtain ⟨v, h1, h2⟩ := h'
        exact .inr ⟨v, fun w hw => run_of v w (by rw [hl]; exact ⟨v, cellC_spec h1 w hw, rfl⟩), h2⟩
      · rename_i n hl
        obtain ⟨l, h1, h2⟩ := h'
        exact .inr ⟨_, fun w hw => run_of _ w (by rw [hl]; exact ⟨l, readC_spec h1 w hw, rfl⟩), h2⟩
      · exact h'.elim
    · rename_i hk; rw [hk] at hn; cases hn
    · rename_i hk; exact convQ_sound hk h
    · exact .inl h
  rcases hp' with hp | ⟨v, h1, h2⟩
  case inr => exact ⟨v, fun w hw => by rw [eval_envOf]; exact h1 w hw, h2⟩
  obtain ⟨v, h1, h2⟩ := pure_any hp.1 hp.2
  refine ⟨v, fun w _ => ?_, h2⟩
  obtain ⟨s, he, v', w', hr, hv, hw'⟩ := ap_soundV (kOf_val hp.1) (h1 w)
  rw [eval_envOf, he]
  simp only [Sem.run_bind, hr, Result.andThen, Sem.run_pure]
  rw [hv, hw']
theorem kOf_bin {o : Oper} {op : BinOp} {t : TypeId} {g : Bool} (h : kOf o = .bin op t g) : isVal o.op = true := by
  obtain ⟨dst, op', ty, pos, aft, gd⟩ := o
  cases op' with
  | store t x v => simp [kOf] at h
  | panic x => simp [kOf] at h
  | call c =>
    obtain ⟨callee, args, ats⟩ := c
    cases callee <;> simp [kOf] at h
    all_goals (first | rfl | contradiction)
  | _ => rfl
theorem takeD_yields {P : Program} {C : World → Prop} {o : Oper} {a : Act} {K : Value → Prop} {w0 : World} (hn : notCall (kOf o) = true) (h : aqD P C w0 (kOf o) ((aOf o).map (ev (envOf a))) K) :
    ∃ v, (∀ w, C w → (execOp a.eval o).run P w = .ok (.value v) w) ∧ K v := by
  have key : ∀ (op : BinOp) (t : TypeId) (g : Bool) (v : Value), kOf o = .bin op t g → (∀ w, ap P (kOf o) ((aOf o).map (ev (envOf a))) w (cV v w)) → ∀ w, (execOp a.eval o).run P w = .ok (.value v) w := by
    intro op t g v hk hap w
    obtain ⟨s, he, v', w', hr, hv, hw'⟩ := ap_soundV (kOf_bin hk) (hap w)
    rw [eval_envOf, he]
    simp only [Sem.run_bind, hr, Result.andThen, Sem.run_pure]
    rw [hv, hw']
  unfold aqD at h
  split at h
  · rename_i t g q x q' y hk hx
    obtain ⟨rfl, hb, hK⟩ := h
    refine ⟨_, fun w _ => key _ _ _ _ hk (fun w => ?_) w, hK⟩
    rw [hk, hx, b_quo _ _ _ _ _ _ _ _ hb]
    exact ⟨rfl, rfl⟩
  · rename_i t g q x q' y hk hx
    obtain ⟨rfl, hb, hK⟩ := h
    refine ⟨_, fun w _ => key _ _ _ _ hk (fun w => ?_) w, hK⟩
    rw [hk, hx, b_rem _ _ _ _ _ _ _ _ hb]
    exact ⟨rfl, rfl⟩
  · rename_i t g q x q' y hk hx
    obtain ⟨v, hr, hK⟩ := h
    refine ⟨v, fun w => fun _ => key _ _ _ _ hk (fun w => ?_) w, hK⟩
    rw [hk, hx, show ∀ c, ap P (.bin .shr t g) [.int q x, .int q' y] w c = getR ((binRun .shr t g (.int q x) (.int q' y)).run P w) c from fun _ => rfl, hr w]
    exact ⟨v, w, rfl, rfl, rfl⟩
  · rename_i t g q x q' y hk hx
    obtain ⟨v, hr, hK⟩ := h
    refine ⟨v, fun w => fun _ => key _ _ _ _ hk (fun w => ?_) w, hK⟩
    rw [hk, hx, show ∀ c, ap P (.bin .and t g) [.int q x, .int q' y] w c = getR ((binRun .and t g (.int q x) (.int q' y)).run P w) c from fun _ => rfl, hr w]
    exact ⟨v, w, rfl, rfl, rfl⟩
  · rename_i t g xs ys hk hx
    obtain ⟨v, hr, hK⟩ := h
    refine ⟨v, fun w => fun _ => key _ _ _ _ hk (fun w => ?_) w, hK⟩
    rw [hk, hx, show ∀ c, ap P (.bin .neq t g) [.agg xs, .agg ys] w c = getR ((binRun .neq t g (.agg xs) (.agg ys)).run P w) c from fun _ => rfl, hr w]
    exact ⟨v, w, rfl, rfl, rfl⟩
  · exact takeC_yields hn h
theorem opTC_yields {P : Program} {N : Nat} {all : Array Oper} {C : World → Prop} {o : Oper} {a : Act} {w : World} {K : Value → Prop} (hn : notCall (kOf o) = true) (hs : a.tmps.size = N) (hroom : ∀ o ∈ all.toList, room N o.dst)
    (h : opTC P all C o (envOf a) w K) : ∃ v, YieldsC P all C o v a ∧ K v := by
  unfold opTC at h
  cases hg : o.guard with
  | none =>
    rw [hg] at h
    obtain ⟨v, h1, h2⟩ := takeD_yields hn h
    exact ⟨v, .inl ⟨by simp [Region.wanted, hg], h1⟩, h2⟩
  | some g =>
    obtain ⟨j, want⟩ := g
    rw [hg] at h
    obtain ⟨t, ht, h⟩ := h
    have htN : t < a.tmps.size := by
      obtain ⟨o', ho', hd'⟩ := Option.bind_eq_some_iff.1 ht
      have := hroom o' (by rw [Array.getElem?_eq_some_iff] at ho'; obtain ⟨hh, rfl⟩ := ho'; exact Array.mem_toList_iff.2 (Array.getElem_mem hh))
      rw [hd'] at this
      rw [hs]; exact this
    have hwb : wantedB (envOf a t) want = true ↔ envOf a t = .bool want := by
      unfold wantedB
      cases envOf a t <;> simp
    by_cases hw : envOf a t = .bool want
    · obtain ⟨v, h1, h2⟩ := takeC_yields hn (h.1 (hwb.2 hw))
      exact ⟨v, .inl ⟨by simp only [Region.wanted, hg]; exact (yielded_envOf ht htN want).2 hw, h1⟩, h2⟩
    · refine ⟨undef, .inr ⟨?_, rfl⟩, h.2 (by rw [← Bool.not_eq_true, hwb]; exact hw)⟩
      simp only [Region.wanted, hg]
      rw [← Bool.not_eq_true]
      exact fun hh => hw ((yielded_envOf ht htN want).1 hh)
theorem xc_sound {P : Program} {N : Nat} {ops : Array Oper} {C : World → Prop} {K : Env → World → Prop} (ds : List Deferred) (Q2 : Exit → Act → World → Prop)
    (hK : ∀ (a : Act) w, a.defers = ds → a.tmps.size = N → K (envOf a) w → Q2 .normal a w) (hQ : ∀ c a w, ¬ Q2 (.panic c) a w) (hroom : ∀ o ∈ ops.toList, room N o.dst) (hs : Region.noSelect ops = true) :
    ∀ (p : Pl), (∀ (fuel : Nat) (l : Array Bool) (a : Act) (w : World), p.okC .any ops true l = true → p.depth ≤ fuel → a.defers = ds → a.tmps.size = N → C w → XC P ops C K p (envOf a) w → wpAnyC P .any ops C Q2 fuel l a w) ∧
      (∀ (fuel : Nat) (l : Array Bool) (a : Act) (w : World), p.okC .any ops false l = true → p.depth ≤ fuel + 1 → a.defers = ds → a.tmps.size = N → C w → XC P ops C K p (envOf a) w → ∀ i ∈ p.heads, wpOp P ops Q2 i (fun a' w' => C w' ∧ wpAnyC P .any ops C Q2 fuel (l.setIfInBounds i true) a' w') a w) := by
  intro p
  induction p with
  | done =>
    refine ⟨fun fuel l a w hok hd hds hsz _ h => ?_, fun _ _ _ _ hok => by simp [Pl.okC] at hok⟩
    have hr : Region.ready .any ops l = [] := by simpa [Pl.okC] using hok
    cases fuel with
    | zero => exact ⟨hr, hK a w hds hsz h⟩
    | succ f => exact ⟨fun _ => hK a w hds hsz h, by rw [hr]; simp⟩
  | nil => exact ⟨fun _ _ _ _ hok => by simp [Pl.okC] at hok, fun _ _ _ _ _ _ _ _ _ _ i hi => by simp [Pl.heads] at hi⟩
  | take i p ih =>
    refine ⟨fun fuel l a w hok hd hds hsz hC h => ?_, fun _ _ _ _ hok => by simp [Pl.okC] at hok⟩
    obtain ⟨o, hi, h⟩ := h
    simp only [Pl.okC, Bool.and_eq_true, hi, Option.map_some, Option.getD_some] at hok
    obtain ⟨⟨⟨h1, h2⟩, h3⟩, h4⟩ := hok
    obtain ⟨v, hy, hx⟩ := opTC_yields h3 hsz hroom h
    simp only [Pl.depth] at hd
    obtain ⟨f, rfl⟩ : ∃ f, fuel = f + 1 := ⟨fuel - 1, by omega⟩
    refine wpAnyC_first hi (Region.noSelect_spec hs) (fun c a w hh => absurd hh (hQ _ _ _)) f l a w hC (Region.free_spec hi h1) (by simpa using h2) hy ?_
    refine ih.1 f _ _ _ h4 (by omega) (by rw [defers_put]; exact hds) (by rw [size_put]; exact hsz) hC ?_
    rw [put_envOf _ _ _ (by rw [hsz]; exact room_at hroom hi)]
    exact hx
  | alt i p r ihp ihr =>
    have key : ∀ (fuel : Nat) (l : Array Bool) (a : Act) (w : World), p.okC .any ops true (l.setIfInBounds i true) = true → r.okC .any ops false l = true → (Pl.alt i p r).depth ≤ fuel + 1 → a.defers = ds → a.tmps.size = N → C w → XC P ops C K (.alt i p r) (envOf a) w → ∀ j ∈ (Pl.alt i p r).heads, wpOp P ops Q2 j (fun a' w' => C w' ∧ wpAnyC P .any ops C Q2 fuel (l.setIfInBounds j true) a' w') a w := by
      intro fuel l a w h1 h2 hd hds hsz hC h j hj
      obtain ⟨⟨o, hi, ho⟩, hr⟩ := h
      have hd1 : p.depth + 1 ≤ fuel + 1 := Nat.le_trans (Nat.le_max_left _ _) hd
      have hd2 : r.depth ≤ fuel + 1 := Nat.le_trans (Nat.le_max_right _ _) hd
      rcases List.mem_cons.1 hj with rfl | hj
      · refine opA_sound hi hsz hroom ho (fun v w' hx => ⟨hx.1, ?_⟩) (fun _ _ hh => hh.elim)
        refine ihp.1 fuel _ _ _ h1 (by omega) (by rw [defers_put]; exact hds) (by rw [size_put]; exact hsz) hx.1 ?_
        rw [put_envOf _ _ _ (by rw [hsz]; exact room_at hroom hi)]
        exact hx.2
      · exact ihr.2 fuel l a w h2 hd2 hds hsz hC hr j hj
    refine ⟨fun fuel l a w hok hd hds hsz hC h => ?_, fun fuel l a w hok hd hds hsz hC h => ?_⟩
    · simp only [Pl.okC, Bool.and_eq_true, beq_iff_eq] at hok
      obtain ⟨⟨h1, h2⟩, h3⟩ := hok
      have hpos : 0 < fuel := Nat.lt_of_lt_of_le (Nat.succ_pos _) (Nat.le_trans (Nat.le_max_left (p.depth + 1) r.depth) hd)
      obtain ⟨f, rfl⟩ : ∃ f, fuel = f + 1 := ⟨fuel - 1, by omega⟩
      exact ⟨fun h0 => by rw [← h1] at h0; simp [Pl.heads] at h0, fun j hj => key f l a w h2 h3 hd hds hsz hC h j (by rw [h1]; exact hj)⟩
    · simp only [Pl.okC, Bool.and_eq_true] at hok
      exact key fuel l a w hok.1 hok.2 hd hds hsz hC h
/-- A drawn region, by a plan: what only reads is taken at once. -/
theorem law_planC {P : Program} {N : Nat} {id : Nat} {ops : Array Oper} {Q : Post} {e : Env} {w : World} (C : World → Prop) (p : Pl) (hm : P.follows .mixedOrders = true) (hs : Region.noSelect ops = true) (hp : (p.okC .any ops true (Array.replicate ops.size false) && decide (p.depth ≤ ops.size)) = true)
    (hC : C w.drew) (h : XC P ops C (fun e w => Q .normal e w) p e w.drew) : Law P N (.region id ops true) Q e w := by
  intro hwf a hsz he
  subst he
  rw [Bool.and_eq_true, decide_eq_true_iff] at hp
  have hroom : ∀ o ∈ ops.toList, room N o.dst := fun o ho => room_of (List.all_eq_true.1 hwf o ho)
  refine wp_mono (Q := fun ex a' w' => ex = .normal ∧ lift N a.defers Q .normal a' w') (wp_region_any hm ?_) ?_
  · exact wpAnyC_any _ _ _ _ ((xc_sound (N := N) a.defers _ (fun a' w' h1 h2 h3 => ⟨rfl, h1, h2, h3⟩) (fun c a w hh => by cases hh.1) hroom hs p).1 _ _ a _ hp.1 hp.2 rfl hsz hC h)
  · rintro ex a' w' ⟨rfl, hh⟩
    exact hh
/-! ### The rules -/
def kCT (P : Program) (all : Array Oper) (C : World → Prop) (K : Env → World → Prop) (p : Pl) (e : Env) (w : World) (d : Option Tmp) : Value → Prop := fun v => XC P all C K p (put e d v) w
def kCl (P : Program) (all : Array Oper) (C : World → Prop) (K : Env → World → Prop) (p : Pl) (e : Env) (d : Option Tmp) : Cont := ⟨fun v w' => C w' ∧ XC P all C K p (put e d v) w', fun _ _ => False⟩
def ckO (P : Program) (all : Array Oper) (C : World → Prop) (K : Env → World → Prop) (p : Pl) (e : Env) (w : World) : Option Oper → Prop
  | some o => opTC P all C o e w (kCT P all C K p e w o.dst)
  | none => False
def caO (P : Program) (all : Array Oper) (C : World → Prop) (K : Env → World → Prop) (p : Pl) (e : Env) (w : World) : Option Oper → Prop
  | some o => opA P all o e w (kCl P all C K p e o.dst)
  | none => False
section
variable (P : Program) (all : Array Oper) (C : World → Prop) (K : Env → World → Prop) (p r : Pl) (e : Env) (w : World)
theorem kCT_ (d : Option Tmp) (v : Value) : kCT P all C K p e w d v = XC P all C K p (put e d v) w := Eq.trans rfl rfl
theorem kCl_K (d : Option Tmp) (v : Value) (w' : World) : (kCl P all C K p e d).K v w' = (C w' ∧ XC P all C K p (put e d v) w') := Eq.trans rfl rfl
theorem kCl_Q (d : Option Tmp) (ch : List PanicEntry) (w' : World) : (kCl P all C K p e d).Q ch w' = False := Eq.trans rfl rfl
theorem xc_done : XC P all C K .done e w = K e w := Eq.trans rfl rfl
theorem xc_nil : XC P all C K .nil e w = True := Eq.trans rfl rfl
theorem xc_take (i : Nat) : XC P all C K (.take i p) e w = ckO P all C K p e w all[i]? := by
  simp only [XC, ckO, kCT]
  cases all[i]? <;> simp <;> rfl
theorem xc_alt (i : Nat) : XC P all C K (.alt i p r) e w = (caO P all C K p e w all[i]? ∧ XC P all C K r e w) := by
  simp only [XC, caO, kCl]
  cases all[i]? <;> simp
theorem ckO_n (d : Option Tmp) (op : Op) (ty : TypeId) (pos : String) (aft : Array Edge) :
    ckO P all C K p e w (some ⟨d, op, ty, pos, aft, none⟩) = aqD P C w (kOf ⟨d, op, ty, pos, aft, none⟩) ((aOf ⟨d, op, ty, pos, aft, none⟩).map (ev e)) (kCT P all C K p e w d) := Eq.trans rfl rfl
theorem ckO_s (d : Option Tmp) (op : Op) (ty : TypeId) (pos : String) (aft : Array Edge) (j : Nat) (want : Bool) :
    ckO P all C K p e w (some ⟨d, op, ty, pos, aft, some (j, want)⟩) = gX ((all[j]?).bind (·.dst)) (kGQ P C w (kOf ⟨d, op, ty, pos, aft, some (j, want)⟩) ((aOf ⟨d, op, ty, pos, aft, some (j, want)⟩).map (ev e)) e want (kCT P all C K p e w d)) := by
  simp only [ckO, opTC]
  cases (all[j]?).bind (·.dst) <;> simp [gX] <;> rfl
theorem caO_n (d : Option Tmp) (op : Op) (ty : TypeId) (pos : String) (aft : Array Edge) :
    caO P all C K p e w (some ⟨d, op, ty, pos, aft, none⟩) = ap P (kOf ⟨d, op, ty, pos, aft, none⟩) ((aOf ⟨d, op, ty, pos, aft, none⟩).map (ev e)) w (kCl P all C K p e d) := Eq.trans rfl rfl
theorem caO_s (d : Option Tmp) (op : Op) (ty : TypeId) (pos : String) (aft : Array Edge) (j : Nat) (want : Bool) :
    caO P all C K p e w (some ⟨d, op, ty, pos, aft, some (j, want)⟩) = gX ((all[j]?).bind (·.dst)) (kG P (kOf ⟨d, op, ty, pos, aft, some (j, want)⟩) ((aOf ⟨d, op, ty, pos, aft, some (j, want)⟩).map (ev e)) e want w (kCl P all C K p e d)) := by
  simp only [caO, opA]
  cases (all[j]?).bind (·.dst) <;> simp [gX] <;> rfl
end
section
variable (P : Program) (C : World → Prop) (w : World) (K : Value → Prop)
theorem aqD_quo (t : TypeId) (g : Bool) (q : IntKind) (a b : Int) : aqD P C w (.bin .quo t g) [.int q a, .int q b] K = ((b == 0) = false ∧ K (.int q (q.wrap (a.tdiv b)))) := by simp [aqD]
theorem aqD_rem (t : TypeId) (g : Bool) (q : IntKind) (a b : Int) : aqD P C w (.bin .rem t g) [.int q a, .int q b] K = ((b == 0) = false ∧ K (.int q (a.tmod b))) := by simp [aqD]
theorem aqD_shr (t : TypeId) (g : Bool) (q q' : IntKind) (a b : Int) : aqD P C w (.bin .shr t g) [.int q a, .int q' b] K = binQ P .shr t g (.int q a) (.int q' b) K := Eq.trans rfl rfl
theorem aqD_and (t : TypeId) (g : Bool) (q q' : IntKind) (a b : Int) : aqD P C w (.bin .and t g) [.int q a, .int q' b] K = binQ P .and t g (.int q a) (.int q' b) K := Eq.trans rfl rfl
theorem aqD_neqa (t : TypeId) (g : Bool) (xs ys : Array Value) : aqD P C w (.bin .neq t g) [.agg xs, .agg ys] K = binQ P .neq t g (.agg xs) (.agg ys) K := Eq.trans rfl rfl
theorem aqD_add (t : TypeId) (g : Bool) (q q' : IntKind) (a b : Int) : aqD P C w (.bin .add t g) [.int q a, .int q' b] K = aq P C w (.bin .add t g) [.int q a, .int q' b] K := Eq.trans rfl rfl
theorem aqD_adds (t : TypeId) (g : Bool) (a b : ByteArray) : aqD P C w (.bin .add t g) [.string a, .string b] K = aq P C w (.bin .add t g) [.string a, .string b] K := Eq.trans rfl rfl
theorem aqD_sub (t : TypeId) (g : Bool) (q q' : IntKind) (a b : Int) : aqD P C w (.bin .sub t g) [.int q a, .int q' b] K = aq P C w (.bin .sub t g) [.int q a, .int q' b] K := Eq.trans rfl rfl
theorem aqD_subs (t : TypeId) (g : Bool) (a b : ByteArray) : aqD P C w (.bin .sub t g) [.string a, .string b] K = aq P C w (.bin .sub t g) [.string a, .string b] K := Eq.trans rfl rfl
theorem aqD_eql (t : TypeId) (g : Bool) (q q' : IntKind) (a b : Int) : aqD P C w (.bin .eql t g) [.int q a, .int q' b] K = aq P C w (.bin .eql t g) [.int q a, .int q' b] K := Eq.trans rfl rfl
theorem aqD_eqls (t : TypeId) (g : Bool) (a b : ByteArray) : aqD P C w (.bin .eql t g) [.string a, .string b] K = aq P C w (.bin .eql t g) [.string a, .string b] K := Eq.trans rfl rfl
theorem aqD_neq (t : TypeId) (g : Bool) (q q' : IntKind) (a b : Int) : aqD P C w (.bin .neq t g) [.int q a, .int q' b] K = aq P C w (.bin .neq t g) [.int q a, .int q' b] K := Eq.trans rfl rfl
theorem aqD_neqs (t : TypeId) (g : Bool) (a b : ByteArray) : aqD P C w (.bin .neq t g) [.string a, .string b] K = aq P C w (.bin .neq t g) [.string a, .string b] K := Eq.trans rfl rfl
theorem aqD_lss (t : TypeId) (g : Bool) (q q' : IntKind) (a b : Int) : aqD P C w (.bin .lss t g) [.int q a, .int q' b] K = aq P C w (.bin .lss t g) [.int q a, .int q' b] K := Eq.trans rfl rfl
theorem aqD_lsss (t : TypeId) (g : Bool) (a b : ByteArray) : aqD P C w (.bin .lss t g) [.string a, .string b] K = aq P C w (.bin .lss t g) [.string a, .string b] K := Eq.trans rfl rfl
theorem aqD_gtr (t : TypeId) (g : Bool) (q q' : IntKind) (a b : Int) : aqD P C w (.bin .gtr t g) [.int q a, .int q' b] K = aq P C w (.bin .gtr t g) [.int q a, .int q' b] K := Eq.trans rfl rfl
theorem aqD_gtrs (t : TypeId) (g : Bool) (a b : ByteArray) : aqD P C w (.bin .gtr t g) [.string a, .string b] K = aq P C w (.bin .gtr t g) [.string a, .string b] K := Eq.trans rfl rfl
theorem aqD_mv (xs : List Value) : aqD P C w .mv xs K = aq P C w .mv xs K := Eq.trans rfl rfl
theorem aqD_pick (xs : List Value) : aqD P C w .pick xs K = aq P C w .pick xs K := Eq.trans rfl rfl
theorem aqD_un (op : UnOp) (xs : List Value) : aqD P C w (.un op) xs K = aq P C w (.un op) xs K := Eq.trans rfl rfl
theorem aqD_conv (s d : TypeId) (xs : List Value) : aqD P C w (.conv s d) xs K = aq P C w (.conv s d) xs K := Eq.trans rfl rfl
theorem aqD_load (t : TypeId) (xs : List Value) : aqD P C w (.load t) xs K = aq P C w (.load t) xs K := Eq.trans rfl rfl
theorem aqD_fldA (t : TypeId) (f : Nat) (xs : List Value) : aqD P C w (.fldA t f) xs K = aq P C w (.fldA t f) xs K := Eq.trans rfl rfl
theorem aqD_idxA (t : TypeId) (xs : List Value) : aqD P C w (.idxA t) xs K = aq P C w (.idxA t) xs K := Eq.trans rfl rfl
theorem aqD_idx (t : TypeId) (xs : List Value) : aqD P C w (.idx t) xs K = aq P C w (.idx t) xs K := Eq.trans rfl rfl
theorem aqD_slc (t : TypeId) (lo hi : Bool) (xs : List Value) : aqD P C w (.slc t lo hi) xs K = aq P C w (.slc t lo hi) xs K := Eq.trans rfl rfl
theorem aqD_ext (i : Nat) (xs : List Value) : aqD P C w (.ext i) xs K = aq P C w (.ext i) xs K := Eq.trans rfl rfl
theorem aqD_nilc (xs : List Value) : aqD P C w .nilc xs K = aq P C w .nilc xs K := Eq.trans rfl rfl
theorem aqD_bi (b : Builtin) (ats : Array TypeId) (ty : TypeId) (xs : List Value) : aqD P C w (.bi b ats ty) xs K = aq P C w (.bi b ats ty) xs K := Eq.trans rfl rfl
end
attribute [push_cast] aqD_shr aqD_and aqD_neqa aqD_quo aqD_rem aqD_add aqD_sub aqD_eql aqD_neq aqD_lss aqD_gtr aqD_adds aqD_eqls aqD_neqs aqD_mv aqD_pick aqD_un aqD_conv aqD_load aqD_fldA aqD_idxA aqD_idx aqD_slc aqD_ext aqD_nilc aqD_bi b_quo b_rem
attribute [push_cast] kCT_ kCl_K kCl_Q xc_done xc_nil xc_take xc_alt ckO_n ckO_s caO_n caO_s
end Go.Sx
