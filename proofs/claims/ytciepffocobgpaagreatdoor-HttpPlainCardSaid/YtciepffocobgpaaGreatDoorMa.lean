/- A reading of the loaded code over environments, proved sound; the closed facts on its types and functions. -/
import Derived.Calls
import Derived.WalkKit
import Derived.WalkSpells
import Derived.WalkLawsBesides
import Derived.WideShapes
import Derived.Sort.Walk0
import Derived.Deep.LoopGhost
import Derived.Deep.Quiet
import Derived.Below
import Derived.Laws.BitsAllLaws
import Derived.Orders
import Derived.Test.YtciepffocobgpaaGreatDoorProg
import Derived.KernelRfl
namespace Go.Sx
open Go
set_option linter.unusedVariables false
set_option linter.unusedSimpArgs false

abbrev Env := Nat → Value
def upd (e : Env) (d : Nat) (v : Value) : Env := fun n => if n = d then v else e n
def ev (e : Env) : Operand → Value
  | .tmp t => e t
  | .const v => v
  | .global g => .pointer (some ⟨g, 0, none⟩)
  | .func f => .func (.func f) #[] #[]
def put (e : Env) : Option Nat → Value → Env
  | some d, v => upd e d v
  | none, _ => e
def room (N : Nat) : Option Nat → Prop
  | some d => d < N
  | none => True
def envOf (a : Act) : Env := fun n => a.tmps.getD n undef
def Rel (N : Nat) (a : Act) (e : Env) : Prop := a.tmps.size = N ∧ envOf a = e

abbrev Post := Exit → Env → World → Prop
/-- A postcondition on environments, as one on frames. -/
def lift (N : Nat) (ds : List Deferred) (Q : Post) : Exit → Act → World → Prop := fun ex a w => a.defers = ds ∧ a.tmps.size = N ∧ Q ex (envOf a) w

theorem eval_envOf (a : Act) : a.eval = ev (envOf a) := by funext x; cases x <;> rfl
theorem put_envOf (a : Act) (d : Option Nat) (v : Value) (h : room a.tmps.size d) : envOf (a.put d v) = put (envOf a) d v := by
  cases d with
  | none => rfl
  | some d =>
    funext n
    simp only [envOf, Act.put, put, upd, Array.getD_eq_getD_getElem?, Array.getElem?_setIfInBounds]
    simp only [room] at h
    by_cases e : n = d
    · subst e; simp [h]
    · have e' : ¬ d = n := fun x => e x.symm
      simp [e, e']
theorem size_put (a : Act) (d : Option Nat) (v : Value) : (a.put d v).tmps.size = a.tmps.size := by cases d <;> simp [Act.put]
theorem defers_put (a : Act) (d : Option Nat) (v : Value) : (a.put d v).defers = a.defers := by cases d <;> rfl

/-- The kinds of operations that are read here. -/
inductive OK where
  | mv
  | pick
  | bin (op : BinOp) (t : TypeId) (g : Bool)
  | un (op : UnOp)
  | conv (s d : TypeId)
  | alloc (t : TypeId)
  | box (t : TypeId)
  | build (t : TypeId) (is : List Nat)
  | bslice (t : TypeId) (n : Nat) (is : List Nat)
  | load (t : TypeId)
  | store (t : TypeId)
  | nilc
  | mkI (t : TypeId)
  | mkF (fn : Fn) (n : Nat)
  | mkS (t : TypeId)
  | slc (t : TypeId) (lo hi : Bool)
  | fldA (t : TypeId) (f : Nat)
  | fld (t : TypeId) (f : Nat)
  | idxA (t : TypeId)
  | idx (t : TypeId)
  | range (t : TypeId)
  | next (s : Bool) (ty : TypeId)
  | tas (x t : TypeId) (ok : Bool)
  | ext (i : Nat)
  | call
  | bi (b : Builtin) (ats : Array TypeId) (ty : TypeId)
  | panic
  | raw (o : Oper)

def isConst : Operand → Bool
  | .const _ => true
  | _ => false
def kOf (o : Oper) : OK :=
  match o.op with
  | .move _ | .assign _ => .mv
  | .pick _ _ _ => .pick
  | .binOp op t x y _ => .bin op t (isConst x || isConst y)
  | .unOp op _ _ => .un op
  | .convert s d _ => .conv s d
  | .alloc t => .alloc t
  | .box t _ => .box t
  | .build t ps => .build t (ps.toList.map (·.1))
  | .buildSlice t n ps => .bslice t n (ps.toList.map (·.1))
  | .load t _ => .load t
  | .store t _ _ => .store t
  | .nilCheck _ => .nilc
  | .makeInterface t _ => .mkI t
  | .makeFunc fn first _ => .mkF fn first.size
  | .makeSlice t _ _ => .mkS t
  | .slice t _ lo hi none => .slc t lo.isSome hi.isSome
  | .fieldAddr t _ f => .fldA t f
  | .field t _ f => .fld t f
  | .indexAddr t _ _ => .idxA t
  | .index t _ _ => .idx t
  | .range t _ => .range t
  | .next _ s => .next s o.type
  | .typeAssert _ x t ok => .tas x t ok
  | .extract _ i => .ext i
  | .call { callee := .value _, .. } => .call
  | .call { callee := .builtin b, argTypes, .. } => .bi b argTypes o.type
  | .panic _ => .panic
  | _ => .raw o
def aOf (o : Oper) : List Operand :=
  match o.op with
  | .move x | .assign x => [x]
  | .pick c a b => [c, a, b]
  | .binOp _ _ x y _ => [x, y]
  | .unOp _ _ x | .convert _ _ x | .box _ x | .load _ x | .nilCheck x | .makeInterface _ x | .fieldAddr _ x _ | .field _ x _ | .range _ x | .next x _ | .typeAssert x _ _ _ | .extract x _ | .panic x => [x]
  | .build _ ps | .buildSlice _ _ ps => ps.toList.map (·.2)
  | .store _ a x => [a, x]
  | .makeFunc _ first cap => first.toList ++ cap.toList
  | .makeSlice _ l c => [l, c]
  | .slice _ x lo hi _ => x :: (lo.toList ++ hi.toList)
  | .indexAddr _ x i | .index _ x i => [x, i]
  | .call { callee := .value f, args, .. } => f :: args.toList
  | .call { callee := .builtin _, args, .. } => args.toList
  | _ => []

/-- What stands behind an operation: a value and a world; a panic; a call. -/
structure Cont where
  K : Value → World → Prop
  Q : List PanicEntry → World → Prop
def callP (c : Cont) : Ending → World → Prop
  | .returned v, w => c.K v w
  | .panicked ch, w => c.Q ch w
  | .outgrown, _ => False

def bt (s : ByteArray) (i : Int) : Int := if h : i.toNat < s.size then ((s[i.toNat]'h).toNat : Int) else 0
/-- How many cells a type has. -/
def tSz (P : Program) (t : TypeId) : Option Nat := (P.info? t).map (·.size)
/-- A type that is no struct or array: none; else how many cells it has. -/
def ldK (P : Program) (t : TypeId) : Option (Option Nat) := match P.underlying t with
  | some (.struct _) | some (.array _ _) => (tSz P t).map some
  | some _ => some none
  | none => none
def tZero (P : Program) (t : TypeId) : Option Value := (P.info? t).bind (·.zero)
/-- A slice type's elements: their type, and how many cells each has. -/
def tElem (P : Program) (t : TypeId) : Option (TypeId × Nat) := match P.underlying t with | some (.slice e) => (tSz P e).map (e, ·) | _ => none
/-- A type that is no interface. -/
def isConc (P : Program) (t : TypeId) : Bool := match P.underlying t with | some (.interface _) => false | some _ => true | none => false
/-- An integer type's kind. -/
def tInt (P : Program) (t : TypeId) : Option IntKind := match P.underlying t with | some (.int k) => some k | _ => none
def isStr (P : Program) (t : TypeId) : Bool := match P.underlying t with | some .string => true | _ => false
/-- A field's place in its struct, if it has cells. -/
def fOff (P : Program) (t : TypeId) (f : Nat) : Option Nat :=
  match P.underlying t with
  | some (.struct fs) => match fs[f]? with
    | some x => match tSz P x.type with | some (_ + 1) => some x.offset | _ => none
    | none => none
  | _ => none
def hasBody (P : Program) (f : FuncId) : Bool := match P.funcs[f]? with | some fn => !(fn.name == "runtime.NumGoroutine") && !fn.body.isNone | none => false
def readCells (w : World) (a : Addr) : Nat → Option (List Value)
  | 0 => some []
  | n + 1 => match readCells w a n, w.cell? (a.add n) with
    | some l, some v => some (l ++ [v])
    | _, _ => none


/-- An operation that is not read closer: it runs to a value. -/
def getR (r : Result Value) (c : Cont) : Prop := ∃ v w', r = .ok v w' ∧ c.K v w'
def RunV (P : Program) (s : Sem Value) (w : World) (c : Cont) : Prop := getR (s.run P w) c
def getX {α : Type} (o : Option α) (k : α → Prop) : Prop := ∃ v, o = some v ∧ k v
def ldX (o : Option (Option Nat)) (a : Addr) (w : World) (k : Value → Prop) : Prop :=
  match o with
  | some none => getX (w.cell? a) k
  | some (some n) => getX (readCells w a n) fun l => k (.agg l.toArray)
  | none => False
def isCell : Value → Bool
  | .agg _ => false
  | .tuple _ => false
  | _ => true
def storeL (a : Addr) : List Value → Nat → World → (World → Prop) → Prop
  | [], _, w, k => k w
  | v :: vs, i, w, k => (w.cell? (a.add i)).isSome = true ∧ w.frozen? (a.add i) = false ∧ isCell v = true ∧ storeL a vs (i + 1) (w.setCell (a.add i) v) k
def binRun (op : BinOp) (t : TypeId) (g : Bool) (a b : Value) : Sem Value := do eqGuard op t (if g then .const undef else .tmp 0) (.tmp 0) a b; binOp op t a b
def apBin (P : Program) (op : BinOp) (t : TypeId) (g : Bool) (x y : Value) (w : World) (c : Cont) : Prop :=
  match op, x, y with
  | .add, .int k a, .int k' b => k' = k ∧ c.K (.int k (k.wrap (a + b))) w
  | .sub, .int k a, .int k' b => k' = k ∧ c.K (.int k (k.wrap (a - b))) w
  | .mul, .int k a, .int k' b => k' = k ∧ c.K (.int k (k.wrap (a * b))) w
  | .eql, .int k a, .int k' b => k' = k ∧ c.K (.bool (decide (a = b))) w
  | .neq, .int k a, .int k' b => k' = k ∧ c.K (.bool (decide (a ≠ b))) w
  | .lss, .int k a, .int k' b => k' = k ∧ c.K (.bool (decide (a < b))) w
  | .leq, .int k a, .int k' b => k' = k ∧ c.K (.bool (decide (a ≤ b))) w
  | .gtr, .int k a, .int k' b => k' = k ∧ c.K (.bool (decide (b < a))) w
  | .geq, .int k a, .int k' b => k' = k ∧ c.K (.bool (decide (b ≤ a))) w
  | .add, .string a, .string b => a.size + b.size ≤ 9223372036854775807 ∧ c.K (.string (a ++ b)) w
  | .eql, .string a, .string b => c.K (.bool (decide (a = b))) w
  | .neq, .string a, .string b => c.K (.bool (decide (a ≠ b))) w
  | op, x, y => RunV P (binRun op t g x y) w c
def apLoad (P : Program) (t : TypeId) (a : Addr) (w : World) (c : Cont) : Prop := ldX (ldK P t) a w fun v => c.K v w
def apIdxA (P : Program) (t : TypeId) (A : Option Addr) (n : Nat) (i : Int) (w : World) (c : Cont) : Prop :=
  getX (tElem P t) fun e => (0 ≤ i ∧ i < n) ∧ getX A fun a => c.K (.pointer (some (a.add (i.toNat * e.2)))) w
def slcRun (t : TypeId) (xs : List Value) (lo hi : Bool) : Sem Value :=
  match xs, lo, hi with
  | [x, l, h], true, true => Instr.sliceAt t x (some l) (some h) none
  | [x, l], true, false => Instr.sliceAt t x (some l) none none
  | [x, h], false, true => Instr.sliceAt t x none (some h) none
  | [x], false, false => Instr.sliceAt t x none none none
  | _, _, _ => stuck ""
def apSlc (P : Program) (t : TypeId) (xs : List Value) (lo hi : Bool) (w : World) (c : Cont) : Prop :=
  match xs, lo, hi with
  | [.string s, .int _ l, .int _ h], true, true => isStr P t = true ∧ (0 ≤ l ∧ l ≤ h ∧ h ≤ s.size) ∧ c.K (.string (s.extract l.toNat h.toNat)) w
  | [.string s, .int _ l], true, false => isStr P t = true ∧ (0 ≤ l ∧ l ≤ s.size) ∧ c.K (.string (s.extract l.toNat s.size)) w
  | [.string s, .int _ h], false, true => isStr P t = true ∧ (0 ≤ h ∧ h ≤ s.size) ∧ c.K (.string (s.extract 0 h.toNat)) w
  | xs, lo, hi => RunV P (slcRun t xs lo hi) w c
def apLen (P : Program) (ats : Array TypeId) (ty : TypeId) (xs : List Value) (w : World) (c : Cont) : Prop :=
  match ats.toList, xs with
  | [t], [.string s] => isStr P t = true ∧ c.K (.int .i64 s.size) w
  | [t], [.slice _ n _] => (tElem P t).isSome = true ∧ c.K (.int .i64 n) w
  | _, _ => RunV P (Builtin.len_ ats ty xs.toArray) w c
def a0 (xs : List Value) (p : Prop) : Prop := match xs with | [] => p | _ => False
def a1 (xs : List Value) (p : Value → Prop) : Prop := match xs with | [x] => p x | _ => False
def a2 (xs : List Value) (p : Value → Value → Prop) : Prop := match xs with | [x, y] => p x y | _ => False
def apPick (xs : List Value) (w : World) (c : Cont) : Prop := match xs with | [.bool b, x, y] => c.K (bif b then x else y) w | _ => False
def apUn (P : Program) (op : UnOp) (x : Value) (w : World) (c : Cont) : Prop :=
  match op, x with
  | .not, .bool b => c.K (.bool (!b)) w
  | op, x => RunV P (Op.unary op x) w c
def apConv (P : Program) (s d : TypeId) (x : Value) (w : World) (c : Cont) : Prop :=
  match x with
  | .int _ n => getX (tInt P d) fun k' => (tInt P s).isSome = true ∧ c.K (.int k' (k'.wrap n)) w
  | x => RunV P (convert s d x) w c
def asPtr (v : Value) (p : Addr → Prop) : Prop := match v with | .pointer (some a) => p a | _ => False
def apIdx (P : Program) (t : TypeId) (x i : Value) (w : World) (c : Cont) : Prop :=
  match x, i with
  | .string s, .int _ i => isStr P t = true ∧ (0 ≤ i ∧ i < s.size) ∧ c.K (.int .u8 (bt s i)) w
  | x, i => RunV P (Instr.index t x i) w c
def apIdxV (P : Program) (t : TypeId) (x i : Value) (w : World) (c : Cont) : Prop :=
  match x, i with
  | .slice A n _, .int _ i => apIdxA P t A n i w c
  | x, i => RunV P (Instr.indexAt t x i) w c
def apExt (i : Nat) (x : Value) (w : World) (c : Cont) : Prop := match x with | .tuple vs => getX vs[i]? fun v => c.K v w | _ => False
def apCall (P : Program) (xs : List Value) (w : World) (c : Cont) : Prop :=
  match xs with
  | .func (.func f) first cap :: args => hasBody P f = true ∧ Calls P f (first.toList ++ args ++ cap.toList).toArray w (callP c)
  | _ => False
def apBi (P : Program) (b : Builtin) (ats : Array TypeId) (ty : TypeId) (xs : List Value) (w : World) (c : Cont) : Prop :=
  match b with
  | .len => apLen P ats ty xs w c
  | .append => RunV P (Builtin.append_ ats ty xs.toArray) w c
  | .copy => RunV P (Builtin.copy_ ats ty xs.toArray) w c
  | .cap => RunV P (Builtin.cap_ ats ty xs.toArray) w c
  | .min => RunV P (Builtin.min_ ats ty xs.toArray) w c
  | .max => RunV P (Builtin.max_ ats ty xs.toArray) w c
  | _ => False
def apPanic (x : Value) (w : World) (c : Cont) : Prop := match x with | .iface t v => c.Q [{ v := .iface t v, recovered := false }] w | _ => False
def ap (P : Program) (k : OK) (xs : List Value) (w : World) (c : Cont) : Prop :=
  match k with
  | .mv => a1 xs fun x => c.K x w
  | .pick => apPick xs w c
  | .bin op t g => a2 xs fun x y => apBin P op t g x y w c
  | .un op => a1 xs fun x => apUn P op x w c
  | .conv s d => a1 xs fun x => apConv P s d x w c
  | .alloc t => a0 xs (getX (tZero P t) fun z => c.K (.pointer (some ⟨w.heap.size, 0, none⟩)) (w.alloc (.cells z.cells t)))
  | .box t => a1 xs fun v => c.K (.pointer (some ⟨w.heap.size, 0, none⟩)) (w.alloc (.cells v.cells t))
  | .build t is => RunV P (Instr.build t (is.zip xs).toArray) w c
  | .bslice t n is => RunV P (Instr.buildSlice t n (is.zip xs).toArray) w c
  | .load t => a1 xs fun x => asPtr x fun a => apLoad P t a w c
  | .store t => a2 xs fun x v => asPtr x fun a => tSz P t = some v.cells.size ∧ storeL a v.cells.toList 0 w fun w' => c.K undef w'
  | .nilc => a1 xs fun x => asPtr x fun a => c.K (.pointer (some a)) w
  | .mkI t => a1 xs fun x => isConc P t = true ∧ c.K (.iface t x) w
  | .mkF fn n => c.K (.func fn (xs.take n).toArray (xs.drop n).toArray) w
  | .mkS t => a2 xs fun l n => RunV P (Instr.makeSlice t l n) w c
  | .slc t lo hi => apSlc P t xs lo hi w c
  | .fldA t f => a1 xs fun x => asPtr x fun a => getX (fOff P t f) fun o => c.K (.pointer (some (a.add o))) w
  | .fld t f => a1 xs fun x => RunV P (Instr.field t x f) w c
  | .idxA t => a2 xs fun x i => apIdxV P t x i w c
  | .idx t => a2 xs fun x i => apIdx P t x i w c
  | .range t => a1 xs fun x => RunV P (Instr.range t x) w c
  | .next s ty => a1 xs fun x => RunV P (Instr.next x s ty) w c
  | .tas x t ok => a1 xs fun v => RunV P (Instr.typeAssert v x t ok) w c
  | .ext i => a1 xs fun x => apExt i x w c
  | .call => apCall P xs w c
  | .bi b ats ty => apBi P b ats ty xs w c
  | .panic => a1 xs fun x => apPanic x w c
  | .raw _ => False

def opx (P : Program) (o : Oper) (ρ : Operand → Value) (w : World) (c : Cont) : Prop :=
  match (execOp ρ o).run P w with
  | .ok (.value v) w' => c.K v w'
  | .ok .skip w' => c.K undef w'
  | .ok (.enter f args) w' => Calls P f args w' (callP c)
  | .ok (.row row args) w' => Rows P row args w' fun v w'' => c.K v w''
  | .halt (.panic v) w' => c.Q [{ v, recovered := false }] w'
  | _ => False
theorem opx_val {P : Program} {o : Oper} {ρ : Operand → Value} {w w' : World} {c : Cont} {s : Sem Value} {v : Value} (he : execOp ρ o = (do pure (.value (← s)))) (hr : s.run P w = .ok v w') (hk : c.K v w') : opx P o ρ w c := by
  unfold opx
  rw [he]
  simp only [Sem.run_bind, hr, Result.andThen, Sem.run_pure]
  exact hk
theorem opx_run {P : Program} {o : Oper} {ρ : Operand → Value} {w : World} {c : Cont} {s : Sem Value} (he : execOp ρ o = (do pure (.value (← s)))) (h : RunV P s w c) : opx P o ρ w c := by
  obtain ⟨v, w', hr, hk⟩ := h
  exact opx_val he hr hk
theorem opx_unit {P : Program} {o : Oper} {ρ : Operand → Value} {w w' : World} {c : Cont} {s : Sem Unit} (he : execOp ρ o = (do s; pure .skip)) (hr : s.run P w = .ok () w') (hk : c.K undef w') : opx P o ρ w c := by
  unfold opx
  rw [he]
  simp only [Sem.run_bind, hr, Result.andThen, Sem.run_pure]
  exact hk
theorem zip_parts (ps : Array (Nat × Operand)) (ρ : Operand → Value) : (((ps.toList.map (·.1)).zip ((ps.toList.map (·.2)).map ρ))).toArray = ps.map fun (i, x) => (i, ρ x) := by
  have : ∀ l : List (Nat × Operand), (l.map (·.1)).zip ((l.map (·.2)).map ρ) = l.map fun x => (x.1, ρ x.2) := by
    intro l
    induction l with
    | nil => rfl
    | cons x l ih => simp only [List.map_cons, List.zip_cons_cons, ih]
  rw [this]
  apply Array.ext'
  simp
theorem opx_congr {P : Program} {o o' : Oper} {ρ ρ' : Operand → Value} {w : World} {c : Cont} (h : execOp ρ o = execOp ρ' o') (hx : opx P o' ρ' w c) : opx P o ρ w c := by
  unfold opx; rw [h]; exact hx

theorem toList_inj {a b : ByteArray} : (a.toList == b.toList) = decide (a = b) := by
  rw [Lib.toList_data, Lib.toList_data, Bool.eq_iff_iff, beq_iff_eq, decide_eq_true_iff]
  constructor
  · exact Go.WideShapes.bytes_inj
  · rintro rfl; rfl
theorem eqGuard_int {P : Program} (op : BinOp) (t : TypeId) (x y : Operand) (k k' : IntKind) (a b : Int) (w : World) : (eqGuard op t x y (.int k a) (.int k' b)).run P w = .ok () w := by
  unfold eqGuard
  cases op <;> simp
theorem eqGuard_str {P : Program} (op : BinOp) (t : TypeId) (x y : Operand) (a b : ByteArray) (w : World) : (eqGuard op t x y (.string a) (.string b)).run P w = .ok () w := by
  unfold eqGuard
  cases op <;> simp
theorem eqGuard_flag (op : BinOp) (t : TypeId) (x y : Operand) (a b : Value) : eqGuard op t x y a b = eqGuard op t (if (isConst x || isConst y) then .const undef else .tmp 0) (.tmp 0) a b := by
  unfold eqGuard
  cases x <;> cases y <;> simp [isConst]

theorem bin_sound {P : Program} {op : BinOp} {t : TypeId} {x y : Operand} {a b : Value} {w : World} {c : Cont} (h : apBin P op t (isConst x || isConst y) a b w c) :
    RunV P (do eqGuard op t x y a b; binOp op t a b) w c := by
  unfold apBin at h
  split at h
  case h_10 a b =>
    obtain ⟨hs, h⟩ := h
    refine ⟨_, w, ?_, h⟩
    simp only [Sem.run_bind, eqGuard_str, Result.andThen]
    have hs' : ¬ (((a.size + b.size : Nat) : Int) > IntKind.i64.max) := by
      have : IntKind.i64.max = 9223372036854775807 := by decide
      omega
    simp only [binOp, Op.stringOp, if_neg hs', Sem.run_pure]
  all_goals first
    | (obtain ⟨rfl, h⟩ := h
       refine ⟨_, w, ?_, h⟩
       simp only [Sem.run_bind, eqGuard_int, Result.andThen]
       simp [binOp, Op.intArith, Op.intCmp]
       first | done | (rw [Bool.eq_iff_iff]; simp))
    | (refine ⟨_, w, ?_, h⟩
       simp only [Sem.run_bind, eqGuard_str, Result.andThen]
       simp only [binOp, Op.stringOp, toList_inj]
       simp)
    | (obtain ⟨v, w', hr, hk⟩ := h
       refine ⟨v, w', ?_, hk⟩
       unfold binRun at hr
       rw [eqGuard_flag]
       exact hr)

section
variable {P : Program} {w : World}
theorem run_und {t : TypeId} {d : TypeDesc} (h : P.underlying t = some d) : (underlying t).run P w = .ok d w := run_underlying h w
theorem run_tSz {t : TypeId} {n : Nat} (h : tSz P t = some n) : (sizeOf t).run P w = .ok n w := by
  unfold tSz at h
  obtain ⟨i, hi, rfl⟩ := Option.map_eq_some_iff.1 h
  have ht : (typeInfo t).run P w = .ok i w := by
    unfold typeInfo program
    simp [hi, Sem.run]
  unfold sizeOf
  simp only [Sem.run_bind, ht, Result.andThen, Sem.run_pure]
theorem loadCells_run {a : Addr} : ∀ (n : Nat) (l : List Value), readCells w a n = some l → (loadCells a n).run P w = .ok l.toArray w := by
  have key : ∀ (n i : Nat) (acc : Array Value) (l : List Value), (∀ j, j < n → ∃ v, w.cell? (a.add (i + j)) = some v ∧ l[j]? = some v) → l.length = n → (loadCellsFrom a i n acc).run P w = .ok (acc ++ l.toArray) w := by
    intro n
    induction n with
    | zero =>
      intro i acc l _ hl
      have : l = [] := List.length_eq_zero_iff.1 hl
      subst this
      simp [loadCellsFrom]
    | succ n ih =>
      intro i acc l h hl
      obtain ⟨v, hv, hl0⟩ := h 0 (by omega)
      cases l with
      | nil => simp at hl
      | cons u l =>
        simp at hl0
        subst hl0
        simp only [loadCellsFrom, Sem.run_bind]
        have hld : (load (a.add i)).run P w = .ok u w := by
          simp only [Nat.add_zero] at hv
          simp [load, Sem.run, hv]
        rw [hld]
        simp only [Result.andThen]
        rw [ih (i + 1) (acc.push u) l (fun j hj => by
          obtain ⟨v, h1, h2⟩ := h (j + 1) (by omega)
          refine ⟨v, by rw [show i + 1 + j = i + (j + 1) by omega]; exact h1, by simpa using h2⟩) (by simpa using hl)]
        simp
  intro n l h
  have key2 : ∀ n l, readCells w a n = some l → l.length = n ∧ ∀ j, j < n → ∃ v, w.cell? (a.add j) = some v ∧ l[j]? = some v := by
    intro n
    induction n with
    | zero => intro l h; simp [readCells] at h; subst h; simp
    | succ n ih =>
      intro l h
      simp only [readCells] at h
      split at h
      · rename_i l' v h1 h2
        obtain ⟨hl, hc⟩ := ih l' h1
        simp at h
        subst h
        refine ⟨by simp [hl], fun j hj => ?_⟩
        rcases Nat.lt_or_ge j n with hj' | hj'
        · obtain ⟨u, h3, h4⟩ := hc j hj'
          exact ⟨u, h3, by rw [List.getElem?_append_left (by omega)]; exact h4⟩
        · have : j = n := by omega
          subst this
          exact ⟨v, h2, by rw [← hl]; simp⟩
      · simp at h
  obtain ⟨hl, hc⟩ := key2 n l h
  have := key n 0 #[] l (fun j hj => by simpa using hc j hj) hl
  simpa [loadCells] using this
theorem ldX_sound {t : TypeId} {a : Addr} {k : Value → Prop} (h : ldX (ldK P t) a w k) : ∃ v, (loadVar t a).run P w = .ok v w ∧ k v := by
  unfold loadVar isAgg
  simp only [pure_bind, Sem.run_bind, Result.andThen]
  cases hd : P.underlying t with
  | none => simp [ldK, hd, ldX] at h
  | some d =>
    rw [run_und hd]
    simp only [Result.andThen]
    by_cases hg : (∃ fs, d = .struct fs) ∨ ∃ n e, d = .array n e
    · have hk : ldK P t = (tSz P t).map some := by rcases hg with ⟨fs, rfl⟩ | ⟨n, e, rfl⟩ <;> simp [ldK, hd]
      rw [hk] at h
      cases hs : tSz P t with
      | none => simp [hs, ldX] at h
      | some n =>
        simp only [hs, Option.map_some, ldX] at h
        obtain ⟨l, hl, hk⟩ := h
        refine ⟨_, ?_, hk⟩
        rcases hg with ⟨fs, rfl⟩ | ⟨n, e, rfl⟩ <;> simp [run_tSz hs, loadCells_run _ _ hl]
    · have hk : ldK P t = some none := by
        unfold ldK
        rw [hd]
        split <;> simp_all
      rw [hk] at h
      obtain ⟨v, hv, hk⟩ := h
      refine ⟨v, ?_, hk⟩
      cases d with
      | struct fs => exact absurd (.inl ⟨_, rfl⟩) hg
      | array n e => exact absurd (.inr ⟨_, _, rfl⟩) hg
      | _ => simp [load, Sem.run, hv]
theorem load_sound {t : TypeId} {a : Addr} {c : Cont} (h : apLoad P t a w c) : RunV P (Instr.loadAt t (.pointer (some a))) w c := by
  obtain ⟨v, h1, h2⟩ := ldX_sound h
  exact ⟨v, w, h1, h2⟩
theorem storeL_run {a : Addr} : ∀ (l : List Value) (i : Nat) (w : World) (k : World → Prop), storeL a l i w k → ∃ w', (storeCells a l i).run P w = .ok () w' ∧ k w' := by
  intro l
  induction l with
  | nil => exact fun i w k h => ⟨w, by simp [storeCells], h⟩
  | cons v l ih =>
    rintro i w k ⟨hu, hf, hc, h⟩
    obtain ⟨u, hu⟩ := Option.isSome_iff_exists.1 hu
    obtain ⟨w', h1, h2⟩ := ih _ _ _ h
    refine ⟨w', ?_, h2⟩
    simp only [storeCells, Sem.run_bind]
    have : (store (a.add i) v).run P w = .ok () (w.setCell (a.add i) v) := by
      unfold store
      cases v <;> first | (simp only [Sem.run, hu, hf]; rfl) | (exact absurd hc (by simp [isCell]))
    rw [this]
    exact h1
theorem fold_sound {t : TypeId} {f o : Nat} {a : Addr} (h : fOff P t f = some o) : (Instr.fieldAt t (.pointer (some a)) f).run P w = .ok (.pointer (some (a.add o))) w := by
  unfold fOff at h
  split at h
  · rename_i fs hd
    split at h
    · rename_i x hx
      split at h
      · rename_i n hs
        simp only [Option.some.injEq] at h
        subst h
        unfold Instr.fieldAt
        simp [run_und hd, hx, Instr.sureAddr, fieldPlace, run_tSz hs]
      · simp at h
    · simp at h
  · simp at h
theorem idxA_sound {t : TypeId} {A : Option Addr} {n m : Nat} {k : IntKind} {i : Int} {c : Cont} (h : apIdxA P t A n i w c) : RunV P (Instr.indexAt t (.slice A n m) (.int k i)) w c := by
  obtain ⟨⟨e, sz⟩, he, hi, a, rfl, hk⟩ := h
  refine ⟨_, w, ?_, hk⟩
  unfold tElem at he
  split at he
  · rename_i e' hd
    obtain ⟨n', hn, h2⟩ := Option.map_eq_some_iff.1 he
    simp only [Prod.mk.injEq] at h2
    obtain ⟨rfl, rfl⟩ := h2
    unfold Instr.indexAt
    simp [asIntOf, run_und hd, hi, run_tSz hn]
  · simp at he

theorem slc_sound {t : TypeId} {xs : List Value} {lo hi : Bool} {c : Cont} (h : apSlc P t xs lo hi w c) : RunV P (slcRun t xs lo hi) w c := by
  have hstr : isStr P t = true → P.underlying t = some .string := by
    unfold isStr
    split <;> simp_all
  unfold apSlc at h
  split at h
  · rename_i s kl l kh h'
    obtain ⟨h1, hb, hk⟩ := h
    refine ⟨_, w, ?_, hk⟩
    have c1 : (0 : Int) ≤ h' ∧ h' ≤ s.size := by omega
    have c2 : (0 : Int) ≤ l ∧ l ≤ (h'.toNat : Int) := by omega
    simp only [slcRun, Instr.sliceAt, Instr.slice, Instr.sliceBounds, Instr.sliceBound, asIntOf, Sem.run_bind, run_und (hstr h1), Result.andThen, pure_bind, Sem.run_pure, if_pos c1, if_pos c2]
    simp [if_pos c2]
  · obtain ⟨h1, hb, hk⟩ := h
    refine ⟨_, w, ?_, hk⟩
    simp [slcRun, Instr.sliceAt, Instr.slice, run_und (hstr h1), Instr.sliceBounds, Instr.sliceBound, asIntOf, hb]
  · obtain ⟨h1, hb, hk⟩ := h
    refine ⟨_, w, ?_, hk⟩
    simp [slcRun, Instr.sliceAt, Instr.slice, run_und (hstr h1), Instr.sliceBounds, Instr.sliceBound, asIntOf, hb]
  · exact h
theorem idx_sound {t : TypeId} {s : ByteArray} {k : IntKind} {i : Int} (h1 : isStr P t = true) (hb : 0 ≤ i ∧ i < s.size) : (Instr.index t (.string s) (.int k i)).run P w = .ok (.int .u8 (bt s i)) w := by
  have hstr : P.underlying t = some .string := by
    unfold isStr at h1
    split at h1 <;> simp_all
  have hlt : i.toNat < s.size := by omega
  have hg : s[i.toNat]? = some s[i.toNat] := by rw [getElem?_pos s i.toNat hlt]
  unfold Instr.index
  simp only [asIntOf, pure_bind, Sem.run_bind, run_und hstr, Result.andThen, if_pos hb.1, hg]
  simp [bt, hlt]
theorem len_sound {ats : Array TypeId} {ty : TypeId} {xs : List Value} {c : Cont} (h : apLen P ats ty xs w c) : RunV P (Builtin.len_ ats ty xs.toArray) w c := by
  unfold apLen at h
  split at h
  · rename_i t s ha
    obtain ⟨h1, hk⟩ := h
    have hstr : P.underlying t = some .string := by
      unfold isStr at h1
      split at h1 <;> simp_all
    refine ⟨_, w, ?_, hk⟩
    have ha' : ats = #[t] := Array.toList_inj.1 ha
    subst ha'
    simp [Builtin.len_, run_und hstr, goInt]
  · rename_i t a n m ha
    obtain ⟨h1, hk⟩ := h
    refine ⟨_, w, ?_, hk⟩
    have ha' : ats = #[t] := Array.toList_inj.1 ha
    subst ha'
    unfold tElem at h1
    split at h1
    · rename_i e hd
      simp [Builtin.len_, run_und hd, goInt]
    · simp at h1
  · exact h
theorem call_sound {f : FuncId} {args : Array Value} (h : hasBody P f = true) : (callFunc f args).run P w = .ok (.enter f args) w := by
  unfold hasBody at h
  unfold callFunc program
  cases hf : P.funcs[f]? with
  | none => simp [hf] at h
  | some fn =>
    rw [hf] at h
    simp only [Bool.and_eq_true, Bool.not_eq_true'] at h
    obtain ⟨h1, h2⟩ := h
    have h1' : ¬ fn.name = "runtime.NumGoroutine" := by simpa using h1
    have h2' : ¬ fn.body = none := by intro e; simp [e] at h2
    simp [Sem.run, hf, h1', h2']
theorem conv_sound {s d : TypeId} {k k' u : IntKind} {n : Int} (h1 : tInt P d = some k') (h2 : tInt P s = some u) : (convert s d (.int k n)).run P w = .ok (.int k' (k'.wrap n)) w := by
  have key : ∀ {t : TypeId} {q : IntKind}, tInt P t = some q → P.underlying t = some (.int q) := by
    intro t q h
    unfold tInt at h
    split at h <;> simp_all
  simp [convert, run_und (key h1), run_und (key h2), Conv.intToInt]

theorem opx_ok {o : Oper} {ρ : Operand → Value} {c : Cont} {v : Value} (h : execOp ρ o = pure (.value v)) (hk : c.K v w) : opx P o ρ w c := by
  unfold opx; rw [h]; exact hk
theorem runV_of {s : Sem Value} {v : Value} {w' : World} {c : Cont} (h : s.run P w = .ok v w') (hk : c.K v w') : RunV P s w c := ⟨v, w', h, hk⟩
/-- The operations that yield a value and call nobody. -/
def isVal : Op → Bool
  | .store .. | .panic _ => false
  | .call { callee := .value _, .. } => false
  | _ => true
theorem ap_mk {o : Oper} {ρ : Operand → Value} {c : Cont} {s : Sem Value} (he : execOp ρ o = (do pure (.value (← s)))) (h : RunV P s w c) : ∃ s : Sem Value, execOp ρ o = (do pure (.value (← s))) ∧ RunV P s w c := ⟨s, he, h⟩
set_option maxHeartbeats 1000000 in
theorem ap_soundV {o : Oper} {ρ : Operand → Value} {c : Cont} (hv : isVal o.op = true) (h : ap P (kOf o) ((aOf o).map ρ) w c) : ∃ s : Sem Value, execOp ρ o = (do pure (.value (← s))) ∧ RunV P s w c := by
  obtain ⟨dst, op, ty, pos, aft, gd⟩ := o
  have asPtr_of : ∀ {v : Value} {p : Addr → Prop}, asPtr v p → ∃ a, v = .pointer (some a) ∧ p a := by
    intro v p h
    unfold asPtr at h
    split at h
    · exact ⟨_, rfl, h⟩
    · exact h.elim
  cases op with
  | move x => exact ⟨pure (ρ x), rfl, runV_of rfl h⟩
  | assign x => exact ⟨pure (ρ x), rfl, runV_of rfl h⟩
  | pick x a b =>
    simp only [kOf, aOf, List.map, ap, apPick] at h
    split at h
    · rename_i b' u v heq
      simp only [List.cons.injEq, and_true] at heq
      obtain ⟨h1, rfl, rfl⟩ := heq
      refine ⟨do pure (if ← asBool (ρ x) then ρ a else ρ b), by simp [execOp], runV_of (v := bif b' then ρ a else ρ b) ?_ h⟩
      simp only [h1, asBool]
      cases b' <;> rfl
    · exact h.elim
  | binOp op t x y t' => exact ⟨_, rfl, bin_sound h⟩
  | unOp op t x =>
    simp only [kOf, aOf, List.map, ap, a1, apUn] at h
    refine ap_mk (s := Op.unary op (ρ x)) rfl ?_
    split at h
    · rename_i b hb; rw [hb]; exact runV_of rfl h
    · exact h
  | convert s d x =>
    simp only [kOf, aOf, List.map, ap, a1, apConv] at h
    refine ap_mk (s := convert s d (ρ x)) rfl ?_
    split at h
    · rename_i k n hb; rw [hb]; obtain ⟨k', h1, h2, hk⟩ := h; obtain ⟨u, h2⟩ := Option.isSome_iff_exists.1 h2; exact runV_of (conv_sound h1 h2) hk
    · exact h
  | alloc t =>
    have h' : getX (tZero P t) fun z => c.K (.pointer (some ⟨w.heap.size, 0, none⟩)) (w.alloc (.cells z.cells t)) := h
    obtain ⟨z, hz, hk⟩ := h'
    refine ap_mk (s := Instr.alloc t true (.tuple #[])) rfl (runV_of ?_ hk)
    unfold tZero at hz
    obtain ⟨i, hi, hz⟩ := Option.bind_eq_some_iff.1 hz
    have ht : (typeInfo t).run P w = .ok i w := by unfold typeInfo program; simp [hi, Sem.run]
    simp only [Instr.alloc, zeroValue, Sem.run_bind, ht, Result.andThen, hz]
    rfl
  | box t x => exact ap_mk (s := Instr.box t (ρ x)) rfl (runV_of rfl h)
  | build t ps =>
    refine ap_mk (s := Instr.build t (ps.map fun (i, x) => (i, ρ x))) rfl ?_
    have h' : RunV P (Instr.build t ((ps.toList.map (·.1)).zip ((ps.toList.map (·.2)).map ρ)).toArray) w c := h
    rw [zip_parts] at h'
    exact h'
  | buildSlice t n ps =>
    refine ap_mk (s := Instr.buildSlice t n (ps.map fun (i, x) => (i, ρ x))) rfl ?_
    have h' : RunV P (Instr.buildSlice t n ((ps.toList.map (·.1)).zip ((ps.toList.map (·.2)).map ρ)).toArray) w c := h
    rw [zip_parts] at h'
    exact h'
  | load t x =>
    have h' : asPtr (ρ x) fun a => apLoad P t a w c := h
    obtain ⟨a, ha, h⟩ := asPtr_of h'
    exact ap_mk (s := Instr.loadAt t (ρ x)) rfl (by rw [ha]; exact load_sound h)
  | store t x v => exact absurd hv (by simp [isVal])
  | nilCheck x =>
    have h' : asPtr (ρ x) fun a => c.K (.pointer (some a)) w := h
    obtain ⟨a, ha, h⟩ := asPtr_of h'
    exact ⟨pure (.pointer (some a)), by simp [execOp, ha], runV_of rfl h⟩
  | makeInterface t x =>
    have h' : isConc P t = true ∧ c.K (.iface t (ρ x)) w := h
    obtain ⟨h1, hk⟩ := h'
    refine ap_mk (s := Instr.makeInterface t (ρ x)) rfl (runV_of ?_ hk)
    unfold isConc at h1
    unfold Instr.makeInterface
    cases hd : P.underlying t with
    | none => simp [hd] at h1
    | some d =>
      rw [hd] at h1
      simp only [Sem.run_bind, run_und hd, Result.andThen]
      cases d <;> first | rfl | simp at h1
  | makeFunc fn first cap =>
    refine ap_mk (s := Instr.makeFunc fn (first.map ρ) (cap.map ρ)) rfl (runV_of rfl ?_)
    have h' : c.K (.func fn (((first.toList ++ cap.toList).map ρ).take first.size).toArray (((first.toList ++ cap.toList).map ρ).drop first.size).toArray) w := h
    have e1 : (((first.toList ++ cap.toList).map ρ).take first.size).toArray = first.map ρ := by
      apply Array.ext'
      rw [List.map_append, List.take_left' (by simp)]
      simp
    have e2 : (((first.toList ++ cap.toList).map ρ).drop first.size).toArray = cap.map ρ := by
      apply Array.ext'
      rw [List.map_append, List.drop_left' (by simp)]
      simp
    rw [e1, e2] at h'
    exact h'
  | makeSlice t l n => exact ap_mk (s := Instr.makeSlice t (ρ l) (ρ n)) rfl h
  | slice t x lo hi mx =>
    cases mx with
    | some m => exact h.elim
    | none =>
      have h' := slc_sound h
      refine ap_mk (s := Instr.sliceAt t (ρ x) (lo.map ρ) (hi.map ρ) none) rfl ?_
      cases lo <;> cases hi <;> exact h'
  | fieldAddr t x f =>
    have h' : asPtr (ρ x) fun a => getX (fOff P t f) fun o => c.K (.pointer (some (a.add o))) w := h
    obtain ⟨a, ha, o, ho, hk⟩ := asPtr_of h'
    exact ap_mk (s := Instr.fieldAt t (ρ x) f) rfl (by rw [ha]; exact runV_of (fold_sound ho) hk)
  | field t x f => exact ap_mk (s := Instr.field t (ρ x) f) rfl h
  | indexAddr t x i =>
    refine ap_mk (s := Instr.indexAt t (ρ x) (ρ i)) rfl ?_
    have h' : apIdxV P t (ρ x) (ρ i) w c := h
    unfold apIdxV at h'
    split at h'
    · rename_i e1 e2; rw [e1, e2]; exact idxA_sound h'
    · exact h'
  | index t x i =>
    refine ap_mk (s := Instr.index t (ρ x) (ρ i)) rfl ?_
    have h' : apIdx P t (ρ x) (ρ i) w c := h
    unfold apIdx at h'
    split at h'
    · rename_i e1 e2; rw [e1, e2]; obtain ⟨h1, hb, hk⟩ := h'; exact runV_of (idx_sound h1 hb) hk
    · exact h'
  | range t x => exact ap_mk (s := Instr.range t (ρ x)) rfl h
  | next x s => exact ap_mk (s := Instr.next (ρ x) s ty) rfl h
  | typeAssert x t u ok => exact ap_mk (s := Instr.typeAssert (ρ x) t u ok) rfl h
  | extract x i =>
    refine ap_mk (s := Instr.extract (ρ x) i) rfl ?_
    have h' : apExt i (ρ x) w c := h
    unfold apExt at h'
    split at h'
    · rename_i vs e; rw [e]; obtain ⟨v, hv, hk⟩ := h'; exact runV_of (by simp [Instr.extract, hv]) hk
    · exact h'.elim
  | panic x => exact absurd hv (by simp [isVal])
  | call cc =>
    obtain ⟨callee, args, ats⟩ := cc
    cases callee with
    | value f => exact absurd hv (by simp [isVal])
    | invoke r m => exact h.elim
    | builtin b =>
      have h' : apBi P b ats ty (args.toList.map ρ) w c := h
      have ha : (args.toList.map ρ).toArray = args.map ρ := by apply Array.ext'; simp
      unfold apBi at h'
      cases b with
      | len => exact ap_mk (s := Builtin.len_ ats ty (args.map ρ)) rfl (by rw [← ha]; exact len_sound h')
      | append => exact ap_mk (s := Builtin.append_ ats ty (args.map ρ)) rfl (by rw [← ha]; exact h')
      | copy => exact ap_mk (s := Builtin.copy_ ats ty (args.map ρ)) rfl (by rw [← ha]; exact h')
      | cap => exact ap_mk (s := Builtin.cap_ ats ty (args.map ρ)) rfl (by rw [← ha]; exact h')
      | min => exact ap_mk (s := Builtin.min_ ats ty (args.map ρ)) rfl (by rw [← ha]; exact h')
      | max => exact ap_mk (s := Builtin.max_ ats ty (args.map ρ)) rfl (by rw [← ha]; exact h')
      | _ => exact h'.elim
  | _ => exact h.elim
set_option maxHeartbeats 1000000 in
theorem ap_sound {o : Oper} {ρ : Operand → Value} {c : Cont} (h : ap P (kOf o) ((aOf o).map ρ) w c) : opx P o ρ w c := by
  by_cases hv : isVal o.op = true
  · obtain ⟨s, he, hr⟩ := ap_soundV hv h
    exact opx_run he hr
  obtain ⟨dst, op, ty, pos, aft, gd⟩ := o
  have asPtr_of : ∀ {v : Value} {p : Addr → Prop}, asPtr v p → ∃ a, v = .pointer (some a) ∧ p a := by
    intro v p h
    unfold asPtr at h
    split at h
    · exact ⟨_, rfl, h⟩
    · exact h.elim
  cases op with
  | store t x v =>
    have h' : asPtr (ρ x) fun a => tSz P t = some (ρ v).cells.size ∧ storeL a (ρ v).cells.toList 0 w fun w' => c.K undef w' := h
    obtain ⟨a, ha, hs, h⟩ := asPtr_of h'
    obtain ⟨w', h1, h2⟩ := storeL_run _ _ _ _ h
    refine opx_unit (s := Instr.storeAt t (ρ x) (ρ v)) rfl (w' := w') ?_ h2
    rw [ha]
    unfold Instr.storeAt storeVar
    simp only [Instr.sureAddr, pure_bind, Sem.run_bind, run_tSz hs, Result.andThen, ne_eq, not_true_eq_false, if_false]
    exact h1
  | panic x =>
    have h' : apPanic (ρ x) w c := h
    unfold apPanic at h'
    split at h'
    · rename_i t v e
      unfold opx
      have : (execOp ρ ⟨dst, .panic x, ty, pos, aft, gd⟩).run P w = .halt (.panic (.iface t v)) w := by
        simp [execOp, e, Instr.panic, goPanic, Sem.run]
      rw [this]
      exact h'
    · exact h'.elim
  | call cc =>
    obtain ⟨callee, args, ats⟩ := cc
    cases callee with
    | value f =>
      have h' : apCall P (ρ f :: args.toList.map ρ) w c := h
      unfold apCall at h'
      split at h'
      · rename_i f' first cap rest heq
        simp only [List.cons.injEq] at heq
        obtain ⟨e1, rfl⟩ := heq
        obtain ⟨hb, hc⟩ := h'
        unfold opx
        have : (execOp ρ ⟨dst, .call { callee := .value f, args, argTypes := ats }, ty, pos, aft, gd⟩).run P w = .ok (.enter f' (first.toList ++ (args.toList.map ρ) ++ cap.toList).toArray) w := by
          simp only [execOp, resolve, e1, Deferred.ofValue, pure_bind, invoke]
          rw [call_sound hb]
          have ha : (first.toList ++ (args.toList.map ρ) ++ cap.toList).toArray = first ++ args.map ρ ++ cap := by apply Array.ext'; simp
          rw [ha]
        rw [this]
        exact hc
      · exact h'.elim
    | invoke r m => exact h.elim
    | builtin b => exact absurd rfl hv
  | _ => first | exact absurd rfl hv | exact h.elim
end

/-- A guarded operation: it is carried out where b says so. -/
def gA (P : Program) (k : OK) (xs : List Value) (b : Bool) (w : World) (c : Cont) : Prop := (b = true → ap P k xs w c) ∧ (b = false → c.K undef w)
def wantedB (v : Value) (want : Bool) : Bool := match v with | .bool b => b == want | _ => false
def condX (v : Value) (p q : Prop) : Prop := ∃ t, v = .bool t ∧ (t = true → p) ∧ (t = false → q)
/-- Operations in the text's order. -/
def XO (P : Program) (all : Array Oper) (Q : Post) (K : Env → World → Prop) : List Oper → Env → World → Prop
  | [], e, w => K e w
  | o :: rest, e, w =>
    match o.guard with
    | none => ap P (kOf o) ((aOf o).map (ev e)) w ⟨fun v w' => XO P all Q K rest (put e o.dst v) w', fun ch w' => Q (.panic ch) e w'⟩
    | some (j, want) =>
      match (all[j]?).bind (·.dst) with
      | none => False
      | some t => gA P (kOf o) ((aOf o).map (ev e)) (wantedB (e t) want) w ⟨fun v w' => XO P all Q K rest (put e o.dst v) w', fun ch w' => Q (.panic ch) e w'⟩
def roomB (N : Nat) (o : Oper) : Bool := match o.dst with | some d => decide (d < N) | none => true
def wfC (N : Nat) : Code → Bool
  | .region _ ops _ => ops.toList.all (roomB N)
  | .seq a b => wfC N a && wfC N b
  | .cond _ a b => wfC N a && wfC N b
  | .block _ c => wfC N c
  | .loop c => wfC N c
  | _ => true
/-- A code, as what the frames' law says of it (a loop, a region that draws its order). -/
def Law (P : Program) (N : Nat) (c : Code) (Q : Post) (e : Env) (w : World) : Prop := wfC N c = true → ∀ a, a.tmps.size = N → envOf a = e → c.wp P (lift N a.defers Q) a w
def seqP (K : Env → World → Prop) (Q : Post) : Post
  | .normal, e, w => K e w
  | .exit i, e, w => Q (.exit i) e w
  | .goto i, e, w => Q (.goto i) e w
  | .ret, e, w => Q .ret e w
  | .panic c, e, w => Q (.panic c) e w
  | .outgrown, e, w => Q .outgrown e w
def blockP (id : Nat) (Q : Post) : Post
  | .exit i, e, w => if i = id then Q .normal e w else Q (.exit i) e w
  | .normal, e, w => Q .normal e w
  | .goto i, e, w => Q (.goto i) e w
  | .ret, e, w => Q .ret e w
  | .panic c, e, w => Q (.panic c) e w
  | .outgrown, e, w => Q .outgrown e w
def X (P : Program) (N : Nat) : Code → Post → Env → World → Prop
  | .skip, Q, e, w => Q .normal e w
  | .region _ ops false, Q, e, w => XO P ops Q (Q .normal) ops.toList e w
  | .region id ops true, Q, e, w => Law P N (.region id ops true) Q e w
  | .seq a b, Q, e, w => X P N a (seqP (X P N b Q) Q) e w
  | .cond c a b, Q, e, w => condX (ev e c) (X P N a Q e w) (X P N b Q e w)
  | .block id c, Q, e, w => X P N c (blockP id Q) e w
  | .loop c, Q, e, w => Law P N (.loop c) Q e w
  | .exit id, Q, e, w => Q (.exit id) e w
  | .ret, Q, e, w => Q .ret e w
  | .label _, Q, e, w => Q .normal e w
  | .goto l, Q, e, w => Q (.goto l) e w
  | _, _, _, _ => False

theorem opX_sound {P : Program} {o : Oper} {a : Act} {w : World} {Q : Exit → Act → World → Prop} {next : Act → World → Prop} {c : Cont}
    (h : ap P (kOf o) ((aOf o).map (ev (envOf a))) w c) (hk : ∀ v w', c.K v w' → next (a.put o.dst v) w') (hq : ∀ chain w', c.Q chain w' → Q (.panic chain) a w') : o.wp P a w next Q := by
  have h := ap_sound h
  unfold opx at h
  unfold Oper.wp Oper.upon
  rw [← eval_envOf] at h
  split at h
  · rename_i hr; rw [hr]; exact hk _ _ h
  · rename_i hr; rw [hr]; exact hk _ _ h
  · rename_i hr; rw [hr]
    refine h.mono ?_
    intro e w' he
    cases e with
    | returned v => exact hk _ _ he
    | panicked c => exact hq _ _ he
    | outgrown => exact he.elim
  · rename_i hr; rw [hr]
    exact Rows.mono h (fun v w' hv => hk _ _ hv)
  · rename_i hr; rw [hr]; exact hq _ _ h
  · exact h.elim

theorem yielded_envOf {ops : Array Oper} {a : Act} {j t : Nat} (h : (ops[j]?).bind (·.dst) = some t) (ht : t < a.tmps.size) (want : Bool) : (yielded ops a.tmps j == some want) = true ↔ envOf a t = .bool want := by
  unfold yielded
  rw [h]
  simp only [Option.bind_some, envOf, Array.getD_eq_getD_getElem?]
  rw [Array.getElem?_eq_getElem ht]
  simp only [Option.getD_some]
  cases a.tmps[t] <;> simp

theorem xo_sound {P : Program} {N : Nat} {all : Array Oper} {Q : Post} {K : Env → World → Prop} (Q2 : Exit → Act → World → Prop) (ds : List Deferred)
    (hroom : ∀ o ∈ all.toList, room N o.dst)
    (hK : ∀ (a : Act) w, a.defers = ds → a.tmps.size = N → K (envOf a) w → Q2 .normal a w)
    (hQ : ∀ (a : Act) chain w, a.defers = ds → a.tmps.size = N → Q (.panic chain) (envOf a) w → Q2 (.panic chain) a w) :
    ∀ (rest : List Oper) (k : Nat), rest = all.toList.drop k → k ≤ all.size → ∀ (a : Act) (w : World), a.defers = ds → a.tmps.size = N → XO P all Q K rest (envOf a) w →
      wpOps P all Q2 ((List.range (all.size - k)).map (· + k)) a w := by
  intro rest
  induction rest with
  | nil =>
    intro k hk hle a w hd hs h
    have hkl : all.size - k = 0 := by
      have := congrArg List.length hk
      simp at this; omega
    rw [hkl]
    exact hK a w hd hs h
  | cons o rest ih =>
    intro k hk hle a w hd hs h
    have hlen : k < all.size := by
      have := congrArg List.length hk
      simp at this; omega
    have hget : all[k]? = some o := by
      have h2 : (all.toList.drop k)[0]? = some o := by rw [← hk]; rfl
      rw [List.getElem?_drop] at h2
      simpa using h2
    have hrest : rest = all.toList.drop (k + 1) := by
      have : (o :: rest).tail = (all.toList.drop k).tail := by rw [hk]
      simpa [List.tail_drop] using this
    have hrange : (List.range (all.size - k)).map (· + k) = k :: (List.range (all.size - (k + 1))).map (· + (k + 1)) := by
      rw [show all.size - k = (all.size - (k + 1)) + 1 by omega, List.range_succ_eq_map, List.map_cons, List.map_map]
      congr 1
      · omega
      · congr 1; funext x; simp only [Function.comp]; omega
    rw [hrange]
    simp only [wpOps, hget]
    simp only [XO] at h
    have hroo : room N o.dst := hroom o (by rw [Array.getElem?_eq_some_iff] at hget; obtain ⟨hh, rfl⟩ := hget; exact Array.mem_toList_iff.2 (Array.getElem_mem hh))
    have hrest' : ∀ v w', XO P all Q K rest (put (envOf a) o.dst v) w' → wpOps P all Q2 ((List.range (all.size - (k + 1))).map (· + (k + 1))) (a.put o.dst v) w' := by
      intro v w' hx
      refine ih (k + 1) hrest (by omega) _ _ (by rw [defers_put]; exact hd) (by rw [size_put]; exact hs) ?_
      rw [put_envOf _ _ _ (by rw [hs]; exact hroo)]
      exact hx
    have hop : ap P (kOf o) ((aOf o).map (ev (envOf a))) w ⟨fun v w' => XO P all Q K rest (put (envOf a) o.dst v) w', fun ch w' => Q (.panic ch) (envOf a) w'⟩ → o.wp P a w (wpOps P all Q2 ((List.range (all.size - (k + 1))).map (· + (k + 1)))) Q2 :=
      fun hx => opX_sound hx hrest' (fun chain w' hp => hQ a chain w' hd hs hp)
    cases hg : o.guard with
    | none =>
      rw [hg] at h
      simp only [Region.wanted, hg, if_true]
      exact .inl (hop h)
    | some g =>
      obtain ⟨j, want⟩ := g
      rw [hg] at h
      simp only at h
      cases ht : (all[j]?).bind (·.dst) with
      | none => rw [ht] at h; exact h.elim
      | some t =>
        rw [ht] at h
        simp only at h
        have htN : t < a.tmps.size := by
          obtain ⟨o', ho', hd'⟩ := Option.bind_eq_some_iff.1 ht
          have := hroom o' (by rw [Array.getElem?_eq_some_iff] at ho'; obtain ⟨hh, rfl⟩ := ho'; exact Array.mem_toList_iff.2 (Array.getElem_mem hh))
          rw [hd'] at this
          rw [hs]; exact this
        simp only [Region.wanted, hg]
        have hwb : wantedB (envOf a t) want = true ↔ envOf a t = .bool want := by
          unfold wantedB
          cases envOf a t <;> simp
        by_cases hw : envOf a t = .bool want
        · rw [if_pos ((yielded_envOf ht htN want).2 hw)]
          exact .inl (hop (h.1 (hwb.2 hw)))
        · rw [if_neg (fun hh => hw ((yielded_envOf ht htN want).1 hh))]
          exact hrest' _ _ (h.2 (by rw [← Bool.not_eq_true, hwb]; exact hw))

theorem room_of {N : Nat} {o : Oper} (h : roomB N o = true) : room N o.dst := by
  unfold roomB at h
  unfold room
  split at h <;> simp_all

theorem x_sound {P : Program} {N : Nat} : ∀ (c : Code) (Q : Post) (a : Act) (w : World), wfC N c = true → a.tmps.size = N → X P N c Q (envOf a) w → c.wp P (lift N a.defers Q) a w := by
  intro c
  induction c with
  | skip => exact fun Q a w _ hs h => wp_skip ⟨rfl, hs, h⟩
  | region id ops draw =>
    intro Q a w hwf hs h
    cases draw with
    | true => exact h hwf a hs rfl
    | false =>
      refine wp_region ?_
      have := xo_sound (P := P) (N := N) (all := ops) (Q := Q) (K := Q .normal) (lift N a.defers Q) a.defers
        (fun o ho => room_of (List.all_eq_true.1 hwf o ho)) (fun a' w' hd hs' hk => ⟨hd, hs', hk⟩) (fun a' ch w' hd hs' hk => ⟨hd, hs', hk⟩) ops.toList 0 (by simp) (by omega) a w rfl hs h
      simpa using this
  | seq x y ihx ihy =>
    intro Q a w hwf hs h
    simp only [wfC, Bool.and_eq_true] at hwf
    refine wp_seq (wp_mono (ihx _ a w hwf.1 hs h) ?_)
    rintro e a' w' ⟨hd, hs', hq⟩
    cases e with
    | normal => rw [← hd]; exact ihy Q a' w' hwf.2 hs' hq
    | exit i => exact ⟨hd, hs', hq⟩
    | goto i => exact ⟨hd, hs', hq⟩
    | ret => exact ⟨hd, hs', hq⟩
    | panic ch => exact ⟨hd, hs', hq⟩
    | outgrown => exact ⟨hd, hs', hq⟩
  | cond x c d ihc ihd =>
    intro Q a w hwf hs h
    simp only [wfC, Bool.and_eq_true] at hwf
    obtain ⟨t, ht, h1, h2⟩ := h
    refine wp_cond (t := t) (by rw [eval_envOf]; exact ht) ?_
    cases t with
    | true => exact ihc Q a w hwf.1 hs (h1 rfl)
    | false => exact ihd Q a w hwf.2 hs (h2 rfl)
  | block id c ih =>
    intro Q a w hwf hs h
    refine wp_block (wp_mono (ih _ a w hwf hs h) ?_)
    rintro e a' w' ⟨hd, hs', hq⟩
    cases e with
    | exit i =>
      simp only [blockP] at hq
      simp only [Exit.inBlock]
      split <;> rename_i hi
      · rw [if_pos hi] at hq; exact ⟨hd, hs', hq⟩
      · rw [if_neg hi] at hq; exact ⟨hd, hs', hq⟩
    | normal => exact ⟨hd, hs', hq⟩
    | goto i => exact ⟨hd, hs', hq⟩
    | ret => exact ⟨hd, hs', hq⟩
    | panic ch => exact ⟨hd, hs', hq⟩
    | outgrown => exact ⟨hd, hs', hq⟩
  | loop c ih => exact fun Q a w hwf hs h => h hwf a hs rfl
  | exit id => exact fun Q a w _ hs h => wp_exit ⟨rfl, hs, h⟩
  | ret => exact fun Q a w _ hs h => wp_ret ⟨rfl, hs, h⟩
  | label l => exact fun Q a w _ hs h => wp_label ⟨rfl, hs, h⟩
  | goto l => exact fun Q a w _ hs h => wp_goto ⟨rfl, hs, h⟩
  | scope c ih => exact fun Q a w _ hs h => h.elim
  | rangeFunc f ps c d ih1 ih2 => exact fun Q a w _ hs h => h.elim
  | refuse y => exact fun Q a w _ hs h => h.elim

/-- The frame with which a call begins. -/
def env0 (args : List Value) : Env := fun n => args.getD n undef
/-- What stands at a function's end: its results, read. -/
def resX (P : Program) (e : Env) (w : World) : List ResultVar → (List Value → Prop) → Prop
  | [], K => K []
  | .tmp t :: rs, K => resX P e w rs fun vs => K (e t :: vs)
  | .cell a t :: rs, K => asPtr (e a) fun ad => ldX (ldK P t) ad w fun v => resX P e w rs fun vs => K (v :: vs)
def tupleOf : List Value → Value
  | [v] => v
  | vs => .tuple vs.toArray
def bodyX (P : Program) (rs : List ResultVar) (R : Ending → World → Prop) : Post
  | .normal, e, w => resX P e w rs fun vs => R (.returned (tupleOf vs)) w
  | .ret, e, w => resX P e w rs fun vs => R (.returned (tupleOf vs)) w
  | .panic ch, _, w => R (.panicked ch) w
  | _, _, _ => False

theorem resX_run {P : Program} {a : Act} {w : World} (f : ResultVar → Sem Value) (hf : ∀ u, f (.tmp u) = pure (a.tmps.getD u undef)) (hc : ∀ x t, f (.cell x t) = (do loadVar t (← asAddr (a.tmps.getD x undef)))) :
    ∀ (rs : List ResultVar) (K : List Value → Prop), resX P (envOf a) w rs K → ∃ vs, (rs.mapM f).run P w = .ok vs w ∧ K vs := by
  intro rs
  induction rs with
  | nil => exact fun K h => ⟨[], by simp, h⟩
  | cons r rs ih =>
    intro K h
    cases r with
    | tmp t =>
      obtain ⟨vs, h1, h2⟩ := ih _ h
      exact ⟨_, by simp [List.mapM_cons, hf, h1, envOf], h2⟩
    | cell x t =>
      simp only [resX] at h
      unfold asPtr at h
      split at h
      case h_2 => exact h.elim
      rename_i ad h0
      obtain ⟨v, h1, h⟩ := ldX_sound h
      obtain ⟨vs, h2, h3⟩ := ih _ h
      simp only [envOf] at h0
      exact ⟨_, by rw [List.mapM_cons, hc, h0]; simp [asAddr, h1, h2], h3⟩
theorem res_run {P : Program} {fn : Func} {a : Act} {w : World} {K : List Value → Prop} (h : resX P (envOf a) w fn.results.toList K) : ∃ vs, (results fn a.tmps).run P w = .ok (tupleOf vs) w ∧ K vs := by
  obtain ⟨vs, h1, h2⟩ := resX_run (fun | .tmp t => pure (a.tmps.getD t undef) | .cell x t => do loadVar t (← asAddr (a.tmps.getD x undef))) (fun _ => rfl) (fun _ _ => rfl) _ _ h
  refine ⟨vs, ?_, h2⟩
  unfold results
  rw [show fn.results = fn.results.toList.toArray by simp, List.mapM_toArray]
  simp only [Sem.run_bind, Sem.run_map]
  erw [h1]
  match vs with
  | [] => simp [tupleOf]
  | [v] => simp [tupleOf]
  | v :: u :: rest => simp [tupleOf]

/-- A call, by the walk of its body. -/
theorem calls_of_X {P : Program} {f : FuncId} {fn : Func} {c : Code} {args : Array Value} {w : World} {R : Ending → World → Prop} {N : Nat} {rs : List ResultVar} {al : List Value}
    (hf : P.funcs[f]? = some fn) (hb : fn.body = some c) (hN : fn.ntmps = N) (hr : fn.results = rs.toArray) (ha : args = al.toArray) (hl : al.length ≤ N) (hwf : wfC N c = true)
    (h : X P N c (bodyX P rs R) (env0 al) w) : Calls P f args w R := by
  subst ha
  refine calls_of_wp hf hb ?_
  have he : envOf { tmps := al.toArray ++ Array.replicate (fn.ntmps - al.toArray.size) undef, defers := [] } = env0 al := by
    funext n
    simp only [envOf, env0, Array.getD_eq_getD_getElem?, List.getD_eq_getElem?_getD, Array.getElem?_append, List.getElem?_toArray, List.size_toArray, Array.getElem?_replicate]
    split
    · rfl
    · rename_i h1
      rw [List.getElem?_eq_none (by omega)]
      split <;> simp
  have := x_sound c _ { tmps := al.toArray ++ Array.replicate (fn.ntmps - al.toArray.size) undef, defers := [] } w hwf (by simp; omega) (by rw [he]; exact h)
  refine wp_mono this ?_
  rintro e a' w' ⟨hd, hs, hq⟩
  have hrs : rs = fn.results.toList := by rw [hr]
  subst hrs
  cases e with
  | normal => obtain ⟨vs, h1, h2⟩ := res_run hq; exact ⟨hd, _, h1, h2⟩
  | ret => obtain ⟨vs, h1, h2⟩ := res_run hq; exact ⟨hd, _, h1, h2⟩
  | panic ch => exact ⟨hd, hq⟩
  | exit i => exact hq.elim
  | goto i => exact hq.elim
  | outgrown => exact hq.elim
end Go.Sx
namespace Go.Sx
open Go
set_option linter.unusedVariables false

/-- A value that is there where b says so. -/
def gv (b : Bool) (v : Value) : Value := bif b then v else undef
theorem gv_true (v : Value) : gv true v = v := Eq.trans rfl rfl
theorem gv_false (v : Value) : gv false v = undef := Eq.trans rfl rfl
theorem wanted_gv (b b2 want : Bool) : wantedB (gv b (.bool b2)) want = (b && (b2 == want)) := by
  cases b <;> cases b2 <;> cases want <;> rfl
theorem wanted_t (b : Bool) : wantedB (.bool b) true = b := by cases b <;> rfl
theorem wanted_f (b : Bool) : wantedB (.bool b) false = !b := by cases b <;> rfl
theorem wanted_gt (b b2 : Bool) : wantedB (gv b (.bool b2)) true = (b && b2) := by cases b <;> cases b2 <;> rfl
theorem wanted_gf (b b2 : Bool) : wantedB (gv b (.bool b2)) false = (b && !b2) := by cases b <;> cases b2 <;> rfl

/-! ### What follows, as data (no lambda: simp does not walk ahead) -/
def kXO (P : Program) (all : Array Oper) (Q : Post) (K : Env → World → Prop) (rest : List Oper) (e : Env) (d : Option Tmp) : Cont := ⟨fun v w' => XO P all Q K rest (put e d v) w', fun ch w' => Q (.panic ch) e w'⟩
def kV (c : Cont) (w : World) : Value → Prop := fun v => c.K v w
def kAl (c : Cont) (w : World) (t : TypeId) : Value → Prop := fun z => c.K (.pointer (some ⟨w.heap.size, 0, none⟩)) (w.alloc (.cells z.cells t))
def kF (c : Cont) (w : World) (a : Addr) : Nat → Prop := fun o => c.K (.pointer (some (a.add o))) w
def kIa (c : Cont) (w : World) (i : Int) (n : Nat) : Addr → Prop := fun a => c.K (.pointer (some (a.add (i.toNat * n)))) w
def kIx (c : Cont) (w : World) (A : Option Addr) (n : Nat) (i : Int) : TypeId × Nat → Prop := fun e => (0 ≤ i ∧ i < n) ∧ getX A (kIa c w i e.2)
def kCv (P : Program) (c : Cont) (w : World) (s : TypeId) (n : Int) : IntKind → Prop := fun k => (tInt P s).isSome = true ∧ c.K (.int k (k.wrap n)) w
def kAg (k : Value → Prop) : List Value → Prop := fun l => k (.agg l.toArray)
def kSt (c : Cont) : World → Prop := fun w' => c.K undef w'
def kCons (v : Value) (k : List Value → Prop) : List Value → Prop := fun vs => k (v :: vs)
def kRet (R : Ending → World → Prop) (w : World) : List Value → Prop := fun vs => R (.returned (tupleOf vs)) w
def kRs (P : Program) (e : Env) (w : World) (rs : List ResultVar) (k : List Value → Prop) : Value → Prop := fun v => resX P e w rs (kCons v k)
def kRa (P : Program) (e : Env) (w : World) (t : TypeId) (rs : List ResultVar) (k : List Value → Prop) : Addr → Prop := fun ad => ldX (ldK P t) ad w (kRs P e w rs k)
def condC (P : Program) (N : Nat) (a b : Code) (Q : Post) (e : Env) (w : World) (v : Value) : Prop := condX v (X P N a Q e w) (X P N b Q e w)
def kG (P : Program) (k : OK) (xs : List Value) (e : Env) (want : Bool) (w : World) (c : Cont) : Tmp → Prop := fun t => gA P k xs (wantedB (e t) want) w c
section
variable (P : Program) (N : Nat) (all : Array Oper) (Q : Post) (K : Env → World → Prop) (e : Env) (w : World) (c : Cont)
/-! ### The rules -/
theorem put_some (d : Nat) (v : Value) (t : Nat) : put e (some d) v t = bif t == d then v else e t := by
  unfold put upd
  by_cases h : t = d
  · simp [h]
  · have h2 : (t == d) = false := by simpa using h
    simp [h, h2]
theorem put_none (v : Value) : put e none v = e := Eq.trans rfl rfl
theorem env0_0 (v : Value) (l : List Value) : env0 (v :: l) 0 = v := Eq.trans rfl rfl
theorem env0_s (v : Value) (l : List Value) (n : Nat) : env0 (v :: l) (n + 1) = env0 l n := Eq.trans rfl rfl
theorem env0_n (n : Nat) : env0 [] n = undef := Eq.trans rfl rfl
theorem ev_t (t : Nat) : ev e (.tmp t) = e t := Eq.trans rfl rfl
theorem ev_c (v : Value) : ev e (.const v) = v := Eq.trans rfl rfl
theorem ev_g (g : Nat) : ev e (.global g) = .pointer (some ⟨g, 0, none⟩) := Eq.trans rfl rfl
theorem ev_f (f : FuncId) : ev e (.func f) = .func (.func f) #[] #[] := Eq.trans rfl rfl
theorem xo_nil : XO P all Q K [] e w = K e w := Eq.trans rfl rfl
theorem xo_none (d : Option Tmp) (op : Op) (ty : TypeId) (pos : String) (aft : Array Edge) (rest : List Oper) :
    XO P all Q K (⟨d, op, ty, pos, aft, none⟩ :: rest) e w = ap P (kOf ⟨d, op, ty, pos, aft, none⟩) ((aOf ⟨d, op, ty, pos, aft, none⟩).map (ev e)) w (kXO P all Q K rest e d) := Eq.trans rfl rfl
def gX (o : Option Tmp) (k : Tmp → Prop) : Prop := match o with | some t => k t | none => False
theorem gX_some (t : Tmp) (k : Tmp → Prop) : gX (some t) k = k t := Eq.trans rfl rfl
theorem kG_ (k : OK) (xs : List Value) (want : Bool) (t : Tmp) : kG P k xs e want w c t = gA P k xs (wantedB (e t) want) w c := Eq.trans rfl rfl
theorem xo_some (d : Option Tmp) (op : Op) (ty : TypeId) (pos : String) (aft : Array Edge) (j : Nat) (want : Bool) (rest : List Oper) :
    XO P all Q K (⟨d, op, ty, pos, aft, some (j, want)⟩ :: rest) e w = gX ((all[j]?).bind (·.dst)) (kG P (kOf ⟨d, op, ty, pos, aft, some (j, want)⟩) ((aOf ⟨d, op, ty, pos, aft, some (j, want)⟩).map (ev e)) e want w (kXO P all Q K rest e d)) := by
  simp only [XO, gX, kXO]
  cases (all[j]?).bind (·.dst) <;> rfl
theorem x_skip : X P N .skip Q e w = Q .normal e w := Eq.trans rfl rfl
theorem x_region (id : Nat) (ops : Array Oper) : X P N (.region id ops false) Q e w = XO P ops Q (Q .normal) ops.toList e w := Eq.trans rfl rfl
theorem x_draw (id : Nat) (ops : Array Oper) : X P N (.region id ops true) Q e w = Law P N (.region id ops true) Q e w := Eq.trans rfl rfl
theorem x_seq (a b : Code) : X P N (.seq a b) Q e w = X P N a (seqP (X P N b Q) Q) e w := Eq.trans rfl rfl
theorem x_cond (x : Operand) (a b : Code) : X P N (.cond x a b) Q e w = condC P N a b Q e w (ev e x) := Eq.trans rfl rfl
theorem x_block (id : Nat) (a : Code) : X P N (.block id a) Q e w = X P N a (blockP id Q) e w := Eq.trans rfl rfl
theorem x_loop (a : Code) : X P N (.loop a) Q e w = Law P N (.loop a) Q e w := Eq.trans rfl rfl
theorem x_exit (id : Nat) : X P N (.exit id) Q e w = Q (.exit id) e w := Eq.trans rfl rfl
theorem x_ret : X P N .ret Q e w = Q .ret e w := Eq.trans rfl rfl
theorem x_label (l : Nat) : X P N (.label l) Q e w = Q .normal e w := Eq.trans rfl rfl
theorem x_goto (l : Nat) : X P N (.goto l) Q e w = Q (.goto l) e w := Eq.trans rfl rfl
theorem seqP_n (H : Env → World → Prop) : seqP H Q .normal e w = H e w := Eq.trans rfl rfl
theorem seqP_e (H : Env → World → Prop) (i : Nat) : seqP H Q (.exit i) e w = Q (.exit i) e w := Eq.trans rfl rfl
theorem seqP_g (H : Env → World → Prop) (i : Nat) : seqP H Q (.goto i) e w = Q (.goto i) e w := Eq.trans rfl rfl
theorem seqP_r (H : Env → World → Prop) : seqP H Q .ret e w = Q .ret e w := Eq.trans rfl rfl
theorem seqP_p (H : Env → World → Prop) (ch : List PanicEntry) : seqP H Q (.panic ch) e w = Q (.panic ch) e w := Eq.trans rfl rfl
theorem blockP_n (i : Nat) : blockP i Q .normal e w = Q .normal e w := Eq.trans rfl rfl
theorem blockP_e (i j : Nat) : blockP i Q (.exit j) e w = bif j == i then Q .normal e w else Q (.exit j) e w := by
  simp only [blockP]
  by_cases h : j = i <;> simp [h]
theorem blockP_g (j i : Nat) : blockP j Q (.goto i) e w = Q (.goto i) e w := Eq.trans rfl rfl
theorem blockP_r (i : Nat) : blockP i Q .ret e w = Q .ret e w := Eq.trans rfl rfl
theorem blockP_p (i : Nat) (ch : List PanicEntry) : blockP i Q (.panic ch) e w = Q (.panic ch) e w := Eq.trans rfl rfl
theorem condC_b (b : Bool) (x y : Code) : condC P N x y Q e w (.bool b) = ((b = true → X P N x Q e w) ∧ (b = false → X P N y Q e w)) := by simp [condC, condX]
theorem condC_t (x y : Code) : condC P N x y Q e w (.bool true) = X P N x Q e w := by simp [condC, condX]
theorem condC_f (x y : Code) : condC P N x y Q e w (.bool false) = X P N y Q e w := by simp [condC, condX]
theorem kXO_K (d : Option Tmp) (rest : List Oper) (v : Value) : (kXO P all Q K rest e d).K v w = XO P all Q K rest (put e d v) w := Eq.trans rfl rfl
theorem kXO_Q (d : Option Tmp) (rest : List Oper) (ch : List PanicEntry) : (kXO P all Q K rest e d).Q ch w = Q (.panic ch) e w := Eq.trans rfl rfl
theorem kV_ (v : Value) : kV c w v = c.K v w := Eq.trans rfl rfl
theorem kAl_ (t : TypeId) (z : Value) : kAl c w t z = c.K (.pointer (some ⟨w.heap.size, 0, none⟩)) (w.alloc (.cells z.cells t)) := Eq.trans rfl rfl
theorem kF_ (a : Addr) (o : Nat) : kF c w a o = c.K (.pointer (some (a.add o))) w := Eq.trans rfl rfl
theorem kIa_ (i : Int) (n : Nat) (a : Addr) : kIa c w i n a = c.K (.pointer (some (a.add (i.toNat * n)))) w := Eq.trans rfl rfl
theorem kIx_ (A : Option Addr) (n m : Nat) (i : Int) (t : TypeId) : kIx c w A n i (t, m) = ((0 ≤ i ∧ i < n) ∧ getX A (kIa c w i m)) := Eq.trans rfl rfl
theorem kCv_ (s : TypeId) (n : Int) (k : IntKind) : kCv P c w s n k = ((tInt P s).isSome = true ∧ c.K (.int k (k.wrap n)) w) := Eq.trans rfl rfl
theorem kAg_ (k : Value → Prop) (l : List Value) : kAg k l = k (.agg l.toArray) := Eq.trans rfl rfl
theorem kSt_ : kSt c w = c.K undef w := Eq.trans rfl rfl
theorem kCons_ (v : Value) (k : List Value → Prop) (vs : List Value) : kCons v k vs = k (v :: vs) := Eq.trans rfl rfl
theorem kRet_ (R : Ending → World → Prop) (vs : List Value) : kRet R w vs = R (.returned (tupleOf vs)) w := Eq.trans rfl rfl
theorem kRs_ (rs : List ResultVar) (k : List Value → Prop) (v : Value) : kRs P e w rs k v = resX P e w rs (kCons v k) := Eq.trans rfl rfl
theorem kRa_ (t : TypeId) (rs : List ResultVar) (k : List Value → Prop) (ad : Addr) : kRa P e w t rs k ad = ldX (ldK P t) ad w (kRs P e w rs k) := Eq.trans rfl rfl
theorem getX_s {α : Type} (x : α) (k : α → Prop) : getX (some x) k = k x := by simp [getX]
theorem getX_o {α : Type} (k : α → Prop) : getX none k = False := by simp [getX]
theorem getR_ok (v : Value) (w' : World) : getR (.ok v w') c = c.K v w' :=
  propext ⟨fun ⟨_, _, h1, h2⟩ => by cases h1; exact h2, fun h => ⟨_, _, rfl, h⟩⟩
theorem ldX_1 (a : Addr) (k : Value → Prop) : ldX (some none) a w k = getX (w.cell? a) k := Eq.trans rfl rfl
theorem ldX_n (a : Addr) (n : Nat) (k : Value → Prop) : ldX (some (some n)) a w k = getX (readCells w a n) (kAg k) := Eq.trans rfl rfl
theorem asPtr_s (a : Addr) (p : Addr → Prop) : asPtr (.pointer (some a)) p = p a := Eq.trans rfl rfl
theorem a1_1 (x : Value) (p : Value → Prop) : a1 [x] p = p x := Eq.trans rfl rfl
theorem a2_2 (x y : Value) (p : Value → Value → Prop) : a2 [x, y] p = p x y := Eq.trans rfl rfl
theorem a0_0 (p : Prop) : a0 [] p = p := Eq.trans rfl rfl
theorem ap_mv (x : Value) : ap P .mv [x] w c = c.K x w := Eq.trans rfl rfl
theorem ap_pick (b : Bool) (x y : Value) : ap P .pick [.bool b, x, y] w c = c.K (bif b then x else y) w := Eq.trans rfl rfl
theorem ap_pick_and (b x y : Bool) : ap P .pick [.bool b, gv b (.bool x), .bool y] w c = c.K (.bool (bif b then x else y)) w := by cases b <;> rfl
theorem ap_pick_or (b x y : Bool) : ap P .pick [.bool b, .bool x, gv (!b) (.bool y)] w c = c.K (.bool (bif b then x else y)) w := by cases b <;> rfl
theorem ap_pick_bb (b x y : Bool) : ap P .pick [.bool b, .bool x, .bool y] w c = c.K (.bool (bif b then x else y)) w := by cases b <;> rfl
theorem cond_ff (b x : Bool) : (bif b then x else false) = (b && x) := by cases b <;> rfl
theorem cond_tt (b y : Bool) : (bif b then true else y) = (b || y) := by cases b <;> rfl
section
variable (t : TypeId) (g : Bool) (k : IntKind) (a b : Int) (x y : ByteArray)
theorem b_add : ap P (.bin .add t g) [.int k a, .int k b] w c = c.K (.int k (k.wrap (a + b))) w := by simp [ap, a2, apBin]
theorem b_sub : ap P (.bin .sub t g) [.int k a, .int k b] w c = c.K (.int k (k.wrap (a - b))) w := by simp [ap, a2, apBin]
theorem b_mul : ap P (.bin .mul t g) [.int k a, .int k b] w c = c.K (.int k (k.wrap (a * b))) w := by simp [ap, a2, apBin]
theorem b_eql : ap P (.bin .eql t g) [.int k a, .int k b] w c = c.K (.bool (decide (a = b))) w := by simp [ap, a2, apBin]
theorem b_neq : ap P (.bin .neq t g) [.int k a, .int k b] w c = c.K (.bool (decide (a ≠ b))) w := by simp [ap, a2, apBin]
theorem b_lss : ap P (.bin .lss t g) [.int k a, .int k b] w c = c.K (.bool (decide (a < b))) w := by simp [ap, a2, apBin]
theorem b_leq : ap P (.bin .leq t g) [.int k a, .int k b] w c = c.K (.bool (decide (a ≤ b))) w := by simp [ap, a2, apBin]
theorem b_gtr : ap P (.bin .gtr t g) [.int k a, .int k b] w c = c.K (.bool (decide (b < a))) w := by simp [ap, a2, apBin]
theorem b_geq : ap P (.bin .geq t g) [.int k a, .int k b] w c = c.K (.bool (decide (b ≤ a))) w := by simp [ap, a2, apBin]
theorem b_cat : ap P (.bin .add t g) [.string x, .string y] w c = (x.size + y.size ≤ 9223372036854775807 ∧ c.K (.string (x ++ y)) w) := by simp [ap, a2, apBin]
theorem b_seql : ap P (.bin .eql t g) [.string x, .string y] w c = c.K (.bool (decide (x = y))) w := by simp [ap, a2, apBin]
theorem b_sneq : ap P (.bin .neq t g) [.string x, .string y] w c = c.K (.bool (decide (x ≠ y))) w := by simp [ap, a2, apBin]
end
theorem ap_not (b : Bool) : ap P (.un .not) [.bool b] w c = c.K (.bool (!b)) w := Eq.trans rfl rfl
theorem ap_conv (s d : TypeId) (k : IntKind) (n : Int) : ap P (.conv s d) [.int k n] w c = getX (tInt P d) (kCv P c w s n) := Eq.trans rfl rfl
theorem ap_convs (s d : TypeId) (x : ByteArray) : ap P (.conv s d) [.string x] w c = getR ((convert s d (.string x)).run P w) c := Eq.trans rfl rfl
theorem ap_convl (s d : TypeId) (A : Option Addr) (n m : Nat) : ap P (.conv s d) [.slice A n m] w c = getR ((convert s d (.slice A n m)).run P w) c := Eq.trans rfl rfl
theorem ap_alloc (t : TypeId) : ap P (.alloc t) [] w c = getX (tZero P t) (kAl c w t) := Eq.trans rfl rfl
theorem ap_box (t : TypeId) (v : Value) : ap P (.box t) [v] w c = c.K (.pointer (some ⟨w.heap.size, 0, none⟩)) (w.alloc (.cells v.cells t)) := Eq.trans rfl rfl
theorem ap_build (t : TypeId) (is : List Nat) (xs : List Value) : ap P (.build t is) xs w c = getR ((Instr.build t (is.zip xs).toArray).run P w) c := Eq.trans rfl rfl
theorem ap_bslice (t : TypeId) (n : Nat) (is : List Nat) (xs : List Value) : ap P (.bslice t n is) xs w c = getR ((Instr.buildSlice t n (is.zip xs).toArray).run P w) c := Eq.trans rfl rfl
theorem ap_load (t : TypeId) (a : Addr) : ap P (.load t) [.pointer (some a)] w c = ldX (ldK P t) a w (kV c w) := Eq.trans rfl rfl
theorem ap_store (t : TypeId) (a : Addr) (v : Value) : ap P (.store t) [.pointer (some a), v] w c = (tSz P t = some v.cells.size ∧ storeL a v.cells.toList 0 w (kSt c)) := Eq.trans rfl rfl
theorem storeL_n (a : Addr) (i : Nat) (k : World → Prop) : storeL a [] i w k = k w := Eq.trans rfl rfl
theorem storeL_c (a : Addr) (v : Value) (vs : List Value) (i : Nat) (k : World → Prop) : storeL a (v :: vs) i w k = ((w.cell? (a.add i)).isSome = true ∧ w.frozen? (a.add i) = false ∧ isCell v = true ∧ storeL a vs (i + 1) (w.setCell (a.add i) v) k) := Eq.trans rfl rfl
theorem ap_nilc (a : Addr) : ap P .nilc [.pointer (some a)] w c = c.K (.pointer (some a)) w := Eq.trans rfl rfl
theorem ap_mkI (t : TypeId) (x : Value) : ap P (.mkI t) [x] w c = (isConc P t = true ∧ c.K (.iface t x) w) := Eq.trans rfl rfl
theorem ap_mkF (fn : Fn) (xs : List Value) : ap P (.mkF fn 0) xs w c = c.K (.func fn #[] xs.toArray) w := Eq.trans rfl rfl
theorem ap_mkS (t : TypeId) (l n : Value) : ap P (.mkS t) [l, n] w c = getR ((Instr.makeSlice t l n).run P w) c := Eq.trans rfl rfl
theorem ap_fldA (t : TypeId) (f : Nat) (a : Addr) : ap P (.fldA t f) [.pointer (some a)] w c = getX (fOff P t f) (kF c w a) := Eq.trans rfl rfl
theorem ap_fld (t : TypeId) (f : Nat) (x : Value) : ap P (.fld t f) [x] w c = getR ((Instr.field t x f).run P w) c := Eq.trans rfl rfl
theorem ap_idxA (t : TypeId) (A : Option Addr) (n m : Nat) (k : IntKind) (i : Int) : ap P (.idxA t) [.slice A n m, .int k i] w c = getX (tElem P t) (kIx c w A n i) := Eq.trans rfl rfl
theorem ap_idx (t : TypeId) (s : ByteArray) (k : IntKind) (i : Int) : ap P (.idx t) [.string s, .int k i] w c = (isStr P t = true ∧ (0 ≤ i ∧ i < s.size) ∧ c.K (.int .u8 (bt s i)) w) := Eq.trans rfl rfl
theorem ap_slc_s (t : TypeId) (s : ByteArray) (k k' : IntKind) (l h : Int) : ap P (.slc t true true) [.string s, .int k l, .int k' h] w c = (isStr P t = true ∧ (0 ≤ l ∧ l ≤ h ∧ h ≤ s.size) ∧ c.K (.string (s.extract l.toNat h.toNat)) w) := Eq.trans rfl rfl
theorem ap_slc_l (t : TypeId) (s : ByteArray) (k : IntKind) (l : Int) : ap P (.slc t true false) [.string s, .int k l] w c = (isStr P t = true ∧ (0 ≤ l ∧ l ≤ s.size) ∧ c.K (.string (s.extract l.toNat s.size)) w) := Eq.trans rfl rfl
theorem ap_slc_h (t : TypeId) (s : ByteArray) (k : IntKind) (h : Int) : ap P (.slc t false true) [.string s, .int k h] w c = (isStr P t = true ∧ (0 ≤ h ∧ h ≤ s.size) ∧ c.K (.string (s.extract 0 h.toNat)) w) := Eq.trans rfl rfl
theorem ap_slc_v (t : TypeId) (lo hi : Bool) (A : Option Addr) (n m : Nat) (xs : List Value) : ap P (.slc t lo hi) (.slice A n m :: xs) w c = getR ((slcRun t (.slice A n m :: xs) lo hi).run P w) c := by
  simp only [ap, apSlc]
  rfl
theorem ap_range (t : TypeId) (x : Value) : ap P (.range t) [x] w c = getR ((Instr.range t x).run P w) c := Eq.trans rfl rfl
theorem ap_next (s : Bool) (ty : TypeId) (x : Value) : ap P (.next s ty) [x] w c = getR ((Instr.next x s ty).run P w) c := Eq.trans rfl rfl
theorem ap_tas (x t : TypeId) (ok : Bool) (v : Value) : ap P (.tas x t ok) [v] w c = getR ((Instr.typeAssert v x t ok).run P w) c := Eq.trans rfl rfl
theorem ap_ext (i : Nat) (vs : Array Value) : ap P (.ext i) [.tuple vs] w c = getX vs[i]? (kV c w) := Eq.trans rfl rfl
theorem ap_call (f : FuncId) (first cap : Array Value) (args : List Value) : ap P .call (.func (.func f) first cap :: args) w c = (hasBody P f = true ∧ Calls P f (first.toList ++ args ++ cap.toList).toArray w (callP c)) := Eq.trans rfl rfl
theorem ap_len_s (t : TypeId) (ty : TypeId) (s : ByteArray) : ap P (.bi .len #[t] ty) [.string s] w c = (isStr P t = true ∧ c.K (.int .i64 s.size) w) := Eq.trans rfl rfl
theorem ap_len_v (t : TypeId) (ty : TypeId) (A : Option Addr) (n m : Nat) : ap P (.bi .len #[t] ty) [.slice A n m] w c = ((tElem P t).isSome = true ∧ c.K (.int .i64 n) w) := Eq.trans rfl rfl
theorem ap_append (ats : Array TypeId) (ty : TypeId) (xs : List Value) : ap P (.bi .append ats ty) xs w c = getR ((Builtin.append_ ats ty xs.toArray).run P w) c := Eq.trans rfl rfl
theorem ap_panic (t : TypeId) (v : Value) : ap P .panic [.iface t v] w c = c.Q [{ v := .iface t v, recovered := false }] w := Eq.trans rfl rfl
theorem callP_r (v : Value) : callP c (.returned v) w = c.K v w := Eq.trans rfl rfl
theorem callP_p (ch : List PanicEntry) : callP c (.panicked ch) w = c.Q ch w := Eq.trans rfl rfl
theorem res_nil (k : List Value → Prop) : resX P e w [] k = k [] := Eq.trans rfl rfl
theorem res_t (t : Nat) (rs : List ResultVar) (k : List Value → Prop) : resX P e w (.tmp t :: rs) k = resX P e w rs (kCons (e t) k) := Eq.trans rfl rfl
theorem res_c (a : Nat) (t : TypeId) (rs : List ResultVar) (k : List Value → Prop) : resX P e w (.cell a t :: rs) k = asPtr (e a) (kRa P e w t rs k) := Eq.trans rfl rfl
theorem body_n (rs : List ResultVar) (R : Ending → World → Prop) : bodyX P rs R .normal e w = resX P e w rs (kRet R w) := Eq.trans rfl rfl
theorem body_r (rs : List ResultVar) (R : Ending → World → Prop) : bodyX P rs R .ret e w = resX P e w rs (kRet R w) := Eq.trans rfl rfl
theorem body_p (rs : List ResultVar) (R : Ending → World → Prop) (ch : List PanicEntry) : bodyX P rs R (.panic ch) e w = R (.panicked ch) w := Eq.trans rfl rfl
theorem tup_1 (v : Value) : tupleOf [v] = v := Eq.trans rfl rfl
theorem tup_0 : tupleOf [] = .tuple #[] := Eq.trans rfl rfl
theorem tup_2 (v u : Value) (l : List Value) : tupleOf (v :: u :: l) = .tuple (v :: u :: l).toArray := Eq.trans rfl rfl

/-! ### Guarded -/
theorem gA_t (k : OK) (xs : List Value) : gA P k xs true w c = ap P k xs w c := by simp [gA]
theorem gA_f (k : OK) (xs : List Value) : gA P k xs false w c = c.K undef w := by simp [gA]
variable (b : Bool)
theorem gA_pure {k : OK} {xs : List Value} {v : Value} (h : ∀ c : Cont, ap P k xs w c = c.K v w) : gA P k xs b w c = c.K (gv b v) w := by
  unfold gA
  rw [h]
  cases b <;> simp [gv]
theorem gA_pure2 {k : OK} {xs : List Value} {v : Value} {p : Prop} (h : ∀ c : Cont, ap P k xs w c = (p ∧ c.K v w)) : gA P k xs b w c = ((b = true → p) ∧ c.K (gv b v) w) := by
  unfold gA
  rw [h]
  cases b <;> simp [gv]
/-- The guard of what is read says no less than the guard under which it is read. -/
def sub (b b1 : Bool) : Prop := b = true → b1 = true
theorem sub_refl : sub b b = True := by simp [sub]
theorem sub_and (b2 : Bool) : sub (b && b2) b = True := by cases b <;> cases b2 <;> simp [sub]
theorem sub_and2 (b1 b2 : Bool) (h : sub b b1 = True) : sub (b && b2) b1 = True := by
  have h : sub b b1 := of_eq_true h
  refine eq_true fun h2 => h ?_
  cases b <;> simp_all
theorem g_mv (x : Value) : gA P .mv [x] b w c = c.K (gv b x) w := gA_pure P w c b fun _ => rfl
theorem gv_gv (b1 : Bool) (x : Value) (h : sub b b1) : gv b (gv b1 x) = gv b x := by
  cases b
  · rfl
  · rw [h rfl]; rfl
theorem strip {k : OK} (b1 : Bool) (l : List Value) (x : Value) (r : List Value) (h : sub b b1) : gA P k (l ++ gv b1 x :: r) b w c = gA P k (l ++ x :: r) b w c := by
  unfold gA
  cases b
  · simp
  · rw [h rfl]; rfl
theorem strip0 (k : OK) (b1 : Bool) (x : Value) (r : List Value) (h : sub b b1) : gA P k (gv b1 x :: r) b w c = gA P k (x :: r) b w c := strip P w c b b1 [] x r h
theorem strip1 (k : OK) (b1 : Bool) (x y : Value) (r : List Value) (h : sub b b1) : gA P k (y :: gv b1 x :: r) b w c = gA P k (y :: x :: r) b w c := strip P w c b b1 [y] x r h
theorem strip2 (k : OK) (b1 : Bool) (x y z : Value) (r : List Value) (h : sub b b1) : gA P k (y :: z :: gv b1 x :: r) b w c = gA P k (y :: z :: x :: r) b w c := strip P w c b b1 [y, z] x r h
theorem g_pick_bb (d x y : Bool) : gA P .pick [.bool d, .bool x, .bool y] b w c = c.K (gv b (.bool (bif d then x else y))) w := gA_pure P w c b fun c => ap_pick_bb P w c d x y
theorem g_pick_and (d x y : Bool) : gA P .pick [.bool d, gv (b && d) (.bool x), .bool y] b w c = c.K (gv b (.bool (bif d then x else y))) w := by
  unfold gA gv; cases b <;> cases d <;> simp [ap, apPick]
theorem g_pick_or (d x y : Bool) : gA P .pick [.bool d, .bool x, gv (b && !d) (.bool y)] b w c = c.K (gv b (.bool (bif d then x else y))) w := by
  unfold gA gv; cases b <;> cases d <;> simp [ap, apPick]
theorem g_not (d : Bool) : gA P (.un .not) [.bool d] b w c = c.K (gv b (.bool (!d))) w := gA_pure P w c b fun _ => rfl
section
variable (t : TypeId) (g : Bool) (k : IntKind) (m n : Int) (x y : ByteArray)
theorem g_add : gA P (.bin .add t g) [.int k m, .int k n] b w c = c.K (gv b (.int k (k.wrap (m + n)))) w := gA_pure P w c b fun c => b_add P w c t g k m n
theorem g_sub : gA P (.bin .sub t g) [.int k m, .int k n] b w c = c.K (gv b (.int k (k.wrap (m - n)))) w := gA_pure P w c b fun c => b_sub P w c t g k m n
theorem g_eql : gA P (.bin .eql t g) [.int k m, .int k n] b w c = c.K (gv b (.bool (decide (m = n)))) w := gA_pure P w c b fun c => b_eql P w c t g k m n
theorem g_neq : gA P (.bin .neq t g) [.int k m, .int k n] b w c = c.K (gv b (.bool (decide (m ≠ n)))) w := gA_pure P w c b fun c => b_neq P w c t g k m n
theorem g_lss : gA P (.bin .lss t g) [.int k m, .int k n] b w c = c.K (gv b (.bool (decide (m < n)))) w := gA_pure P w c b fun c => b_lss P w c t g k m n
theorem g_leq : gA P (.bin .leq t g) [.int k m, .int k n] b w c = c.K (gv b (.bool (decide (m ≤ n)))) w := gA_pure P w c b fun c => b_leq P w c t g k m n
theorem g_gtr : gA P (.bin .gtr t g) [.int k m, .int k n] b w c = c.K (gv b (.bool (decide (n < m)))) w := gA_pure P w c b fun c => b_gtr P w c t g k m n
theorem g_geq : gA P (.bin .geq t g) [.int k m, .int k n] b w c = c.K (gv b (.bool (decide (n ≤ m)))) w := gA_pure P w c b fun c => b_geq P w c t g k m n
theorem g_seql : gA P (.bin .eql t g) [.string x, .string y] b w c = c.K (gv b (.bool (decide (x = y)))) w := gA_pure P w c b fun c => b_seql P w c t g x y
theorem g_sneq : gA P (.bin .neq t g) [.string x, .string y] b w c = c.K (gv b (.bool (decide (x ≠ y)))) w := gA_pure P w c b fun c => b_sneq P w c t g x y
end
theorem g_idx (t : TypeId) (s : ByteArray) (k : IntKind) (i : Int) : gA P (.idx t) [.string s, .int k i] b w c = ((b = true → isStr P t = true ∧ (0 ≤ i ∧ i < s.size)) ∧ c.K (gv b (.int .u8 (bt s i))) w) :=
  gA_pure2 P w c b fun c => by rw [ap_idx]; simp only [and_assoc]
theorem g_len_s (t : TypeId) (ty : TypeId) (s : ByteArray) : gA P (.bi .len #[t] ty) [.string s] b w c = ((b = true → isStr P t = true) ∧ c.K (gv b (.int .i64 s.size)) w) := gA_pure2 P w c b fun c => rfl
theorem g_len_v (t : TypeId) (ty : TypeId) (A : Option Addr) (n m : Nat) : gA P (.bi .len #[t] ty) [.slice A n m] b w c = ((b = true → (tElem P t).isSome = true) ∧ c.K (gv b (.int .i64 n)) w) := gA_pure2 P w c b fun c => rfl
theorem g_ext (i : Nat) (v : Value) (vs : Array Value) (h : vs[i]? = some v) : gA P (.ext i) [.tuple vs] b w c = c.K (gv b v) w := gA_pure P w c b fun c => by rw [ap_ext, h, getX_s]; rfl
theorem g_call (xs : List Value) : gA P .call xs b w c = ((b = true → ap P .call xs w c) ∧ (b = false → c.K undef w)) := Eq.trans rfl rfl
end

/-! ### Loops and cuts: what the slots of S hold is forgotten -/
/-- Slots, as stretches. -/
def inS : List (Nat × Nat) → Nat → Bool
  | [], _ => false
  | (a, b) :: r, n => (decide (a ≤ n) && decide (n ≤ b)) || inS r n
theorem inS_n (n : Nat) : inS [] n = false := Eq.trans rfl rfl
theorem inS_c (a b : Nat) (r : List (Nat × Nat)) (n : Nat) : inS ((a, b) :: r) n = ((decide (a ≤ n) && decide (n ≤ b)) || inS r n) := Eq.trans rfl rfl
def subS : List (Nat × Nat) → List (Nat × Nat) → Bool
  | [], _ => true
  | (a, b) :: r, S => S.any (fun q => decide (q.1 ≤ a) && decide (b ≤ q.2)) && subS r S
theorem subS_n (S : List (Nat × Nat)) : subS [] S = true := Eq.trans rfl rfl
theorem subS_c (a b : Nat) (r S : List (Nat × Nat)) : subS ((a, b) :: r) S = (S.any (fun q => decide (q.1 ≤ a) && decide (b ≤ q.2)) && subS r S) := Eq.trans rfl rfl
theorem inS_of_sub {S2 S : List (Nat × Nat)} {n : Nat} (h : subS S2 S = true) (hn : inS S n = false) : inS S2 n = false := by
  induction S2 with
  | nil => rfl
  | cons p r ih =>
    obtain ⟨a, b⟩ := p
    simp only [subS, Bool.and_eq_true, List.any_eq_true, decide_eq_true_eq] at h
    obtain ⟨⟨q, hq, h1, h2⟩, h3⟩ := h
    simp only [inS, ih h3, Bool.or_false, Bool.and_eq_false_iff, decide_eq_false_iff_not]
    have key : ∀ S : List (Nat × Nat), q ∈ S → inS S n = false → ¬ (q.1 ≤ n ∧ n ≤ q.2) := by
      intro S
      induction S with
      | nil => intro hh; cases hh
      | cons x S ih2 =>
        intro hh hf
        simp only [inS, Bool.or_eq_false_iff, Bool.and_eq_false_iff, decide_eq_false_iff_not] at hf
        rcases List.mem_cons.1 hh with rfl | hh
        · omega
        · exact ih2 hh hf.2
    have := key S hq hn
    omega
def mask (S : List (Nat × Nat)) (h e : Env) : Env := fun n => bif inS S n then h n else e n
theorem mask_ (S : List (Nat × Nat)) (h e : Env) (n : Nat) : mask S h e n = bif inS S n then h n else e n := Eq.trans rfl rfl
def Off (S : List (Nat × Nat)) (e0 e : Env) : Prop := ∀ n, inS S n = false → e n = e0 n
theorem off_refl (S : List (Nat × Nat)) (e : Env) : Off S e e = True := eq_true fun _ _ => rfl
theorem off_mask (S : List (Nat × Nat)) (h e : Env) : Off S e (mask S h e) = True := eq_true fun n hn => by simp [mask, hn]
theorem off_put (S : List (Nat × Nat)) (e0 e : Env) (d : Nat) (v : Value) (h : inS S d = true) : Off S e0 (put e (some d) v) = Off S e0 e := by
  refine propext ⟨fun H n hn => ?_, fun H n hn => ?_⟩
  · have := H n hn
    rw [put_some] at this
    have hne : (n == d) = false := by rw [beq_eq_false_iff_ne]; rintro rfl; rw [h] at hn; cases hn
    rw [hne] at this
    exact this
  · rw [put_some]
    have hne : (n == d) = false := by rw [beq_eq_false_iff_ne]; rintro rfl; rw [h] at hn; cases hn
    rw [hne]
    exact H n hn
theorem off_mask2 (S S2 : List (Nat × Nat)) (e0 h e : Env) (hs : subS S2 S = true) : Off S e0 (mask S2 h e) = Off S e0 e := by
  refine propext ⟨fun H n hn => ?_, fun H n hn => ?_⟩
  · have := H n hn; simpa [mask, inS_of_sub hs hn] using this
  · have := H n hn; simpa [mask, inS_of_sub hs hn] using this
theorem mask_of_off {S : List (Nat × Nat)} {e0 e : Env} (h : Off S e0 e) : mask S e e0 = e := by
  funext n
  unfold mask
  cases hn : inS S n
  · exact (h n hn).symm
  · rfl
theorem dT [Decidable True] : decide True = true := by simp
theorem dF [Decidable False] : decide False = false := by simp
theorem law_loop {P : Program} {N : Nat} {body : Code} {Q : Post} {e : Env} {w : World} (S : List (Nat × Nat)) (I : Nat → Env → World → Prop) (n0 : Nat) (h0 : I n0 e w)
    (round : ∀ n h w', I n h w' → ∀ T : Env → World → Prop, (∀ m e' w'', Off S e e' → m < n → I m e' w'' → T e' w'') → X P N body (seqP T Q) (mask S h e) w') : Law P N (.loop body) Q e w := by
  intro hwf a hs he
  refine wp_loop_ghost (fun n a' w' => a'.tmps.size = N ∧ a'.defers = a.defers ∧ Off S e (envOf a') ∧ I n (envOf a') w') n0 ⟨hs, rfl, by rw [he]; exact fun _ _ => rfl, by rw [he]; exact h0⟩ ?_
  rintro n a' w' ⟨hs', hd, hoff, hI⟩
  have hx := round n (envOf a') w' hI (fun e' w'' => Off S e e' ∧ ∃ m, m < n ∧ I m e' w'') (fun m e' w'' h1 h2 h3 => ⟨h1, m, h2, h3⟩)
  rw [mask_of_off hoff] at hx
  refine wp_mono (x_sound body _ a' w' hwf hs' hx) ?_
  rintro ex a2 w2 ⟨hd2, hs2, hq⟩
  cases ex with
  | normal => obtain ⟨h1, m, h2, h3⟩ := hq; exact ⟨m, h2, hs2, hd2.trans hd, h1, h3⟩
  | exit i => exact ⟨hd2.trans hd, hs2, hq⟩
  | goto i => exact ⟨hd2.trans hd, hs2, hq⟩
  | ret => exact ⟨hd2.trans hd, hs2, hq⟩
  | panic ch => exact ⟨hd2.trans hd, hs2, hq⟩
  | outgrown => exact ⟨hd2.trans hd, hs2, hq⟩

/-- A call, by the walk of its body: what it promises stands behind a variable. -/
theorem calls_X {P : Program} {f : FuncId} {fn : Func} {c : Code} {args : Array Value} {w : World} {R : Ending → World → Prop} {N : Nat} {rs : List ResultVar} {al : List Value}
    (hf : P.funcs[f]? = some fn) (hb : fn.body = some c) (hN : fn.ntmps = N) (hr : fn.results = rs.toArray) (ha : args = al.toArray) (hl : decide (al.length ≤ N) = true) (hwf : wfC N c = true)
    (h : ∀ R' : Ending → World → Prop, (∀ r w', R r w' → R' r w') → X P N c (bodyX P rs R') (env0 al) w) : Calls P f args w R :=
  calls_of_X hf hb hN hr ha (of_decide_eq_true hl) hwf (h R fun _ _ h => h)
theorem cells_i (k : IntKind) (n : Int) : (Value.int k n).cells = #[.int k n] := Eq.trans rfl rfl
theorem cells_b (b : Bool) : (Value.bool b).cells = #[.bool b] := Eq.trans rfl rfl
theorem cells_s (b : ByteArray) : (Value.string b).cells = #[.string b] := Eq.trans rfl rfl
theorem cells_p (b : Option Addr) : (Value.pointer b).cells = #[.pointer b] := Eq.trans rfl rfl
theorem cells_l (b : Option Addr) (n m : Nat) : (Value.slice b n m).cells = #[.slice b n m] := Eq.trans rfl rfl
theorem cells_f (t : TypeId) (v : Value) : (Value.iface t v).cells = #[.iface t v] := Eq.trans rfl rfl
theorem cells_n : Value.nilIface.cells = #[.nilIface] := Eq.trans rfl rfl
theorem cells_a (xs : Array Value) : (Value.agg xs).cells = xs := Eq.trans rfl rfl
theorem cell_i (k : IntKind) (n : Int) : isCell (.int k n) = true := Eq.trans rfl rfl
theorem cell_b (b : Bool) : isCell (.bool b) = true := Eq.trans rfl rfl
theorem cell_s (b : ByteArray) : isCell (.string b) = true := Eq.trans rfl rfl
theorem cell_p (b : Option Addr) : isCell (.pointer b) = true := Eq.trans rfl rfl
theorem cell_l (b : Option Addr) (n m : Nat) : isCell (.slice b n m) = true := Eq.trans rfl rfl
theorem cell_f (t : TypeId) (v : Value) : isCell (.iface t v) = true := Eq.trans rfl rfl
theorem cell_n : isCell .nilIface = true := Eq.trans rfl rfl
attribute [push_cast] cells_i cells_b cells_s cells_p cells_l cells_f cells_n cells_a cell_i cell_b cell_s cell_p cell_l cell_f cell_n List.size_toArray List.length_cons List.length_nil eq_self Addr.add_lit List.getElem?_toArray List.getElem?_cons_zero List.getElem?_cons_succ inS_n inS_c subS_n subS_c mask_ off_refl off_mask off_put off_mask2 dT dF Bool.not_true Bool.not_false Bool.true_and Bool.and_true Bool.false_and Bool.and_false Bool.true_or Bool.or_true Bool.false_or Bool.or_false List.any_cons List.any_nil gv_true gv_false wanted_t wanted_f wanted_gt wanted_gf put_some put_none env0_0 env0_s env0_n ev_t ev_c ev_g ev_f xo_nil xo_none gX_some kG_ xo_some x_skip x_region x_draw x_seq x_cond x_block x_loop x_exit x_ret x_label x_goto seqP_n seqP_e seqP_g seqP_r seqP_p blockP_n blockP_e blockP_g blockP_r blockP_p condC_b condC_t condC_f kXO_K kXO_Q kV_ kAl_ kF_ kIa_ kIx_ kCv_ kAg_ kSt_ kCons_ kRet_ kRs_ kRa_ getX_s getX_o getR_ok ldX_1 ldX_n asPtr_s a1_1 a2_2 a0_0 ap_mv ap_pick_and ap_pick_or ap_pick_bb cond_ff cond_tt b_add b_sub b_mul b_eql b_neq b_lss b_leq b_gtr b_geq b_cat b_seql b_sneq ap_not ap_conv ap_convs ap_convl ap_alloc ap_box ap_build ap_bslice ap_load ap_store storeL_n storeL_c ap_nilc ap_mkI ap_mkF ap_mkS ap_fldA ap_fld ap_idxA ap_idx ap_slc_s ap_slc_l ap_slc_h ap_slc_v ap_range ap_next ap_tas ap_ext ap_call ap_len_s ap_len_v ap_append ap_panic callP_r callP_p res_nil res_t res_c body_n body_r body_p tup_1 tup_0 tup_2 gA_t gA_f sub_refl sub_and g_mv gv_gv strip0 strip1 strip2 g_pick_bb g_pick_and g_pick_or g_not g_add g_sub g_eql g_neq g_lss g_leq g_gtr g_geq g_seql g_sneq g_idx g_len_s g_len_v g_ext g_call sub_and2 kOf aOf isConst List.map_cons List.map_nil List.zip_cons_cons List.zip_nil_left List.nil_append List.cons_append Option.bind_some Option.isSome_some true_and and_true implies_true cond_true cond_false
end Go.Sx
/-! Regions that draw their order, whose operations read and call quietly: walked once. -/
namespace Go.Sx
open Go
set_option linter.unusedVariables false
set_option linter.unusedSimpArgs false

def isI : Value → Bool | .int _ _ => true | _ => false
def isS : Value → Bool | .string _ => true | _ => false
def isBo : Value → Bool | .bool _ => true | _ => false
def isSl : Value → Bool | .slice _ _ _ => true | _ => false
def opI : BinOp → Bool | .add | .sub | .mul | .eql | .neq | .lss | .leq | .gtr | .geq => true | _ => false
def opS : BinOp → Bool | .eql | .neq | .add => true | _ => false
/-- Operations whose value hangs on no world. -/
def pureOK (k : OK) (xs : List Value) : Bool :=
  match k, xs with
  | .mv, _ => true
  | .pick, _ => true
  | .bin op _ _, [x, y] => (opI op && isI x && isI y) || (opS op && isS x && isS y)
  | .un .not, [x] => isBo x
  | .conv _ _, [x] => isI x
  | .fldA _ _, _ => true
  | .idxA _, [x, i] => isSl x && isI i
  | .idx _, [x, i] => isS x && isI i
  | .slc _ true true, [x, i, j] => isS x && isI i && isI j
  | .slc _ true false, [x, i] => isS x && isI i
  | .slc _ false true, [x, i] => isS x && isI i
  | .ext _, _ => true
  | .nilc, _ => true
  | .mkI _, _ => true
  | .bi .len ats _, [x] => (isS x || isSl x) && (ats.toList.length == 1)
  | _, _ => false
def cV (v : Value) (w : World) : Cont := ⟨fun v' w' => v' = v ∧ w' = w, fun _ _ => False⟩
def cK (K : Value → Prop) : Cont := ⟨fun v _ => K v, fun _ _ => False⟩
theorem pure_any {P : Program} {k : OK} {xs : List Value} {w0 : World} {K : Value → Prop} (hp : pureOK k xs = true) (h : ap P k xs w0 (cK K)) : ∃ v, (∀ w, ap P k xs w (cV v w)) ∧ K v := by
  unfold pureOK at hp
  split at hp
  case h_1 => 
    simp only [ap, a1] at h ⊢
    split at h
    · exact ⟨_, fun w => ⟨rfl, rfl⟩, h⟩
    · exact h.elim
  case h_2 =>
    simp only [ap, apPick] at h ⊢
    split at h
    · exact ⟨_, fun w => ⟨rfl, rfl⟩, h⟩
    · exact h.elim
  case h_3 op t g x y =>
    simp only [ap, a2] at h ⊢
    cases x <;> cases y <;> simp [isI, isS] at hp <;> cases op <;> simp [opI, opS] at hp <;> simp only [apBin] at h ⊢ <;>
      first
        | exact ⟨_, fun w => ⟨h.1, rfl, rfl⟩, h.2⟩
        | exact ⟨_, fun w => ⟨rfl, rfl⟩, h⟩
  case h_4 x =>
    simp only [ap, a1] at h ⊢
    cases x <;> simp [isBo] at hp
    exact ⟨_, fun w => ⟨rfl, rfl⟩, h⟩
  case h_5 s d x =>
    simp only [ap, a1] at h ⊢
    cases x <;> simp [isI] at hp
    obtain ⟨k', h1, h2, h3⟩ := h
    exact ⟨_, fun w => ⟨k', h1, h2, rfl, rfl⟩, h3⟩
  case h_6 t f =>
    simp only [ap, a1] at h ⊢
    split at h
    · unfold asPtr at h ⊢
      split at h
      · obtain ⟨o, h1, h2⟩ := h
        exact ⟨_, fun w => ⟨o, h1, rfl, rfl⟩, h2⟩
      · exact h.elim
    · exact h.elim
  case h_7 t x i =>
    simp only [ap, a2] at h ⊢
    cases x <;> simp [isSl] at hp
    cases i <;> simp [isI] at hp
    obtain ⟨e, h1, h2, a, h3, h4⟩ := h
    exact ⟨_, fun w => ⟨e, h1, h2, a, h3, rfl, rfl⟩, h4⟩
  case h_8 t x i =>
    simp only [ap, a2] at h ⊢
    cases x <;> simp [isS] at hp
    cases i <;> simp [isI] at hp
    obtain ⟨h1, h2, h3⟩ := h
    exact ⟨_, fun w => ⟨h1, h2, rfl, rfl⟩, h3⟩
  case h_9 t x i j =>
    cases x <;> simp [isS] at hp
    cases i <;> simp [isI] at hp
    cases j <;> simp [isI] at hp
    obtain ⟨h1, h2, h3⟩ := h
    exact ⟨_, fun w => ⟨h1, h2, rfl, rfl⟩, h3⟩
  case h_10 t x i =>
    cases x <;> simp [isS] at hp
    cases i <;> simp [isI] at hp
    obtain ⟨h1, h2, h3⟩ := h
    exact ⟨_, fun w => ⟨h1, h2, rfl, rfl⟩, h3⟩
  case h_11 t x i =>
    cases x <;> simp [isS] at hp
    cases i <;> simp [isI] at hp
    obtain ⟨h1, h2, h3⟩ := h
    exact ⟨_, fun w => ⟨h1, h2, rfl, rfl⟩, h3⟩
  case h_12 i =>
    simp only [ap, a1] at h ⊢
    split at h
    · unfold apExt at h ⊢
      split at h
      · obtain ⟨v, h1, h2⟩ := h
        exact ⟨v, fun w => ⟨v, h1, rfl, rfl⟩, h2⟩
      · exact h.elim
    · exact h.elim
  case h_13 =>
    simp only [ap, a1] at h ⊢
    split at h
    · unfold asPtr at h ⊢
      split at h
      · exact ⟨_, fun w => ⟨rfl, rfl⟩, h⟩
      · exact h.elim
    · exact h.elim
  case h_14 t =>
    simp only [ap, a1] at h ⊢
    split at h
    · exact ⟨_, fun w => ⟨h.1, rfl, rfl⟩, h.2⟩
    · exact h.elim
  case h_15 ats ty x =>
    simp only [Bool.and_eq_true, beq_iff_eq] at hp
    obtain ⟨hx, hl⟩ := hp
    obtain ⟨t, ht⟩ := List.length_eq_one_iff.1 hl
    simp only [ap, apBi, apLen, ht] at h ⊢
    cases x <;> simp [isS, isSl] at hx
    · exact ⟨_, fun w => ⟨h.1, rfl, rfl⟩, h.2⟩
    · exact ⟨_, fun w => ⟨h.1, rfl, rfl⟩, h.2⟩
  case h_16 => cases hp

/-- What a cell holds in every world of the class. -/
noncomputable def cellC (C : World → Prop) (a : Addr) : Option Value := open Classical in if h : ∃ v, ∀ w, C w → w.cell? a = some v then some (Classical.choose h) else none
theorem cellC_spec {C : World → Prop} {a : Addr} {v : Value} (h : cellC C a = some v) : ∀ w, C w → w.cell? a = some v := by
  unfold cellC at h
  split at h
  · rename_i hh
    cases h
    exact Classical.choose_spec hh
  · cases h
theorem cellC_of {C : World → Prop} {a : Addr} {v : Value} (w0 : World) (hw : C w0) (h : ∀ w, C w → w.cell? a = some v) : cellC C a = some v := by
  unfold cellC
  have hh : ∃ v, ∀ w, C w → w.cell? a = some v := ⟨v, h⟩
  rw [dif_pos hh]
  have h1 := Classical.choose_spec hh w0 hw
  rw [h w0 hw] at h1
  exact h1.symm
noncomputable def readC (C : World → Prop) (a : Addr) : Nat → Option (List Value)
  | 0 => some []
  | n + 1 => match readC C a n, cellC C (a.add n) with
    | some l, some v => some (l ++ [v])
    | _, _ => none
theorem readC_spec {C : World → Prop} {a : Addr} : ∀ {n : Nat} {l : List Value}, readC C a n = some l → ∀ w, C w → readCells w a n = some l
  | 0, l, h, w, hw => by simpa [readC, readCells] using h
  | n + 1, l, h, w, hw => by
    simp only [readC] at h
    split at h
    · rename_i l' v h1 h2
      simp only [readCells, readC_spec h1 w hw, cellC_spec h2 w hw]
      exact h
    · cases h
def ldQ (C : World → Prop) (o : Option (Option Nat)) (a : Addr) (K : Value → Prop) : Prop :=
  match o with
  | some none => getX (cellC C a) K
  | some (some n) => getX (readC C a n) (kAg K)
  | none => False
def callQ (P : Program) (C : World → Prop) (f : FuncId) (args : Array Value) (K : Value → Prop) : Prop := ∃ v, (∀ w, C w → Calls P f args w fun e w' => e = .returned v ∧ C w') ∧ K v
def callQ' (P : Program) (C : World → Prop) (xs : List Value) (K : Value → Prop) : Prop :=
  match xs with
  | .func (.func f) first cap :: args => hasBody P f = true ∧ callQ P C f (first.toList ++ args ++ cap.toList).toArray K
  | _ => False
/-- What a conversion gives in every world of the class. -/
noncomputable def convC (P : Program) (C : World → Prop) (s d : TypeId) (x : Value) : Option Value := open Classical in if h : ∃ v, ∀ w, C w → (convert s d x).run P w = .ok v w then some (Classical.choose h) else none
theorem convC_spec {P : Program} {C : World → Prop} {s d : TypeId} {x v : Value} (h : convC P C s d x = some v) : ∀ w, C w → (convert s d x).run P w = .ok v w := by
  unfold convC at h
  split at h
  · rename_i hh
    cases h
    exact Classical.choose_spec hh
  · cases h
theorem convC_of {P : Program} {C : World → Prop} {s d : TypeId} {x v : Value} (w0 : World) (hw : C w0) (h : ∀ w, C w → (convert s d x).run P w = .ok v w) : convC P C s d x = some v := by
  unfold convC
  have hh : ∃ v, ∀ w, C w → (convert s d x).run P w = .ok v w := ⟨v, h⟩
  rw [dif_pos hh]
  have h1 := Classical.choose_spec hh w0 hw
  rw [h w0 hw] at h1
  injection h1 with h1
  rw [← h1]
def convQ (P : Program) (C : World → Prop) (w0 : World) (s d : TypeId) (xs : List Value) (K : Value → Prop) : Prop :=
  match xs with
  | [.slice A n m] => getX (convC P C s d (.slice A n m)) K
  | xs => pureOK (.conv s d) xs = true ∧ ap P (.conv s d) xs w0 (cK K)
def aq (P : Program) (C : World → Prop) (w0 : World) (k : OK) (xs : List Value) (K : Value → Prop) : Prop :=
  match k with
  | .load t => a1 xs fun x => asPtr x fun a => ldQ C (ldK P t) a K
  | .call => callQ' P C xs K
  | .conv s d => convQ P C w0 s d xs K
  | k => pureOK k xs = true ∧ ap P k xs w0 (cK K)
def aqG (P : Program) (C : World → Prop) (w0 : World) (k : OK) (xs : List Value) (b : Bool) (K : Value → Prop) : Prop := (b = true → aq P C w0 k xs K) ∧ (b = false → K undef)
def XQ (P : Program) (C : World → Prop) (w0 : World) (all : Array Oper) (K : Env → Prop) : List Oper → Env → Prop
  | [], e => K e
  | o :: rest, e =>
    match o.guard with
    | none => aq P C w0 (kOf o) ((aOf o).map (ev e)) fun v => XQ P C w0 all K rest (put e o.dst v)
    | some (j, want) => gX ((all[j]?).bind (·.dst)) fun t => aqG P C w0 (kOf o) ((aOf o).map (ev e)) (wantedB (e t) want) fun v => XQ P C w0 all K rest (put e o.dst v)

theorem kOf_load {o : Oper} {t : TypeId} (h : kOf o = .load t) : ∃ x, o.op = .load t x := by
  obtain ⟨dst, op, ty, pos, aft, gd⟩ := o
  unfold kOf at h
  split at h <;> simp_all
theorem kOf_call {o : Oper} (h : kOf o = .call) : ∃ f args ats, o.op = .call { callee := .value f, args, argTypes := ats } := by
  obtain ⟨dst, op, ty, pos, aft, gd⟩ := o
  unfold kOf at h
  split at h <;> simp_all
theorem kOf_conv {o : Oper} {s d : TypeId} (h : kOf o = .conv s d) : ∃ x, o.op = .convert s d x := by
  obtain ⟨dst, op, ty, pos, aft, gd⟩ := o
  unfold kOf at h
  split at h <;> simp_all
theorem convQ_sound {P : Program} {C : World → Prop} {w0 : World} {o : Oper} {s d : TypeId} {ρ : Operand → Value} {K : Value → Prop} (hk : kOf o = .conv s d) (h : convQ P C w0 s d ((aOf o).map ρ) K) :
    (pureOK (kOf o) ((aOf o).map ρ) = true ∧ ap P (kOf o) ((aOf o).map ρ) w0 (cK K)) ∨ ∃ v, (∀ w, C w → (execOp ρ o).run P w = .ok (.value v) w) ∧ K v := by
  unfold convQ at h
  split at h
  · rename_i A n m hx
    obtain ⟨x, hop⟩ := kOf_conv hk
    obtain ⟨v, h1, h2⟩ := h
    refine .inr ⟨v, fun w hw => ?_, h2⟩
    have ha : aOf o = [x] := by unfold aOf; rw [hop]
    rw [ha] at hx
    have hx' : ρ x = .slice A n m := by simpa using hx
    have := convC_spec h1 w hw
    unfold execOp
    rw [hop]
    simp only [hx', Sem.run_bind, this, Result.andThen, Sem.run_pure]
  · exact .inl (by rw [hk]; exact h)
theorem kOf_val {o : Oper} {xs : List Value} (h : pureOK (kOf o) xs = true) : isVal o.op = true := by
  obtain ⟨dst, op, ty, pos, aft, gd⟩ := o
  cases op with
  | store t x v => simp [kOf, pureOK] at h
  | panic x => simp [kOf, pureOK] at h
  | call c =>
    obtain ⟨callee, args, ats⟩ := c
    cases callee with
    | value f => simp [kOf, pureOK] at h
    | _ => rfl
  | _ => rfl
theorem aq_sound {P : Program} {C : World → Prop} {w0 : World} {o : Oper} {a : Act} {K : Value → Prop} (h : aq P C w0 (kOf o) ((aOf o).map (ev (envOf a))) K) : ∃ v, (∀ w, C w → o.quietAt P a C w v) ∧ K v := by
  unfold aq at h
  split at h
  case h_1 t hk =>
    obtain ⟨x, hx⟩ := kOf_load hk
    have ha : aOf o = [x] := by unfold aOf; rw [hx]
    rw [ha] at h
    have h' : asPtr (ev (envOf a) x) fun ad => ldQ C (ldK P t) ad K := h
    unfold asPtr at h'
    split at h'
    case h_2 => exact h'.elim
    rename_i ad had
    have run_of : ∀ (v : Value) (w : World), ldX (ldK P t) ad w (· = v) → o.quietAt P a C w v := by
      intro v w hl
      obtain ⟨u, h1, h2⟩ := ldX_sound hl
      subst h2
      unfold Oper.quietAt
      have : (execOp a.eval o).run P w = .ok (.value u) w := by
        unfold execOp
        rw [hx, eval_envOf]
        simp only [had, Instr.loadAt, Instr.sureAddr, pure_bind, Sem.run_bind, h1, Result.andThen, Sem.run_pure]
      rw [this]
      exact ⟨rfl, rfl⟩
    unfold ldQ at h'
    split at h'
    · rename_i hl
      obtain ⟨v, h1, h2⟩ := h'
      exact ⟨v, fun w hw => run_of v w (by rw [hl]; exact ⟨v, cellC_spec h1 w hw, rfl⟩), h2⟩
    · rename_i n hl
      obtain ⟨l, h1, h2⟩ := h'
      exact ⟨_, fun w hw => run_of _ w (by rw [hl]; exact ⟨l, readC_spec h1 w hw, rfl⟩), h2⟩
    · exact h'.elim
  case h_2 hk =>
    obtain ⟨f, args, ats, hx⟩ := kOf_call hk
    have ha : aOf o = f :: args.toList := by unfold aOf; rw [hx]
    rw [ha] at h
    have h' : callQ' P C (ev (envOf a) f :: args.toList.map (ev (envOf a))) K := h
    unfold callQ' at h'
    split at h'
    · rename_i g first cap rest heq
      simp only [List.cons.injEq] at heq
      obtain ⟨e1, rfl⟩ := heq
      obtain ⟨hb, v, h1, h2⟩ := h'
      refine ⟨v, fun w hw => ?_, h2⟩
      unfold Oper.quietAt
      have : (execOp a.eval o).run P w = .ok (.enter g (first.toList ++ args.toList.map (ev (envOf a)) ++ cap.toList).toArray) w := by
        unfold execOp
        rw [hx, eval_envOf]
        simp only [resolve, e1, Deferred.ofValue, pure_bind, invoke]
        rw [call_sound hb]
        have ha : (first.toList ++ (args.toList.map (ev (envOf a))) ++ cap.toList).toArray = first ++ args.map (ev (envOf a)) ++ cap := by apply Array.ext'; simp
        rw [ha]
      rw [this]
      exact ⟨rfl, h1 w hw⟩
    · exact h'.elim
  case h_3 s d hk =>
    rcases convQ_sound hk h with h | ⟨v, h1, h2⟩
    · obtain ⟨v, h1, h2⟩ := pure_any h.1 h.2
      refine ⟨v, fun w hw => ?_, h2⟩
      obtain ⟨s, he, v', w', hr, hv, hw'⟩ := ap_soundV (kOf_val h.1) (h1 w)
      unfold Oper.quietAt
      rw [eval_envOf, he]
      simp only [Sem.run_bind, hr, Result.andThen, Sem.run_pure]
      exact ⟨hw', hv⟩
    · refine ⟨v, fun w hw => ?_, h2⟩
      unfold Oper.quietAt
      rw [eval_envOf, h1 w hw]
      exact ⟨rfl, rfl⟩
  case h_4 =>
    obtain ⟨v, h1, h2⟩ := pure_any h.1 h.2
    refine ⟨v, fun w hw => ?_, h2⟩
    obtain ⟨s, he, v', w', hr, hv, hw'⟩ := ap_soundV (kOf_val h.1) (h1 w)
    unfold Oper.quietAt
    rw [eval_envOf, he]
    simp only [Sem.run_bind, hr, Result.andThen, Sem.run_pure]
    exact ⟨hw', hv⟩
theorem xq_sound {P : Program} {C : World → Prop} {w0 : World} {N : Nat} {all : Array Oper} {K : Env → Prop} (K' : Act → Prop) (ds : List Deferred) (hroom : ∀ o ∈ all.toList, room N o.dst)
    (hK : ∀ a, a.defers = ds → a.tmps.size = N → K (envOf a) → K' a) :
    ∀ (rest : List Oper), (∀ o ∈ rest, o ∈ all.toList) → ∀ (a : Act), a.defers = ds → a.tmps.size = N → XQ P C w0 all K rest (envOf a) → wpQuiet P all C K' rest a := by
  intro rest
  induction rest with
  | nil => exact fun _ a hd hs h => hK a hd hs h
  | cons o rest ih =>
    intro hin a hd hs h
    have ho := hroom o (hin o List.mem_cons_self)
    have hnext : ∀ v, XQ P C w0 all K rest (put (envOf a) o.dst v) → wpQuiet P all C K' rest (a.put o.dst v) := by
      intro v hx
      refine ih (fun o' h' => hin o' (List.mem_cons_of_mem _ h')) _ (by rw [defers_put]; exact hd) (by rw [size_put]; exact hs) ?_
      rw [put_envOf _ _ _ (by rw [hs]; exact ho)]
      exact hx
    simp only [XQ] at h
    simp only [wpQuiet]
    cases hg : o.guard with
    | none =>
      rw [hg] at h
      simp only [Region.wanted, hg, if_true]
      obtain ⟨v, h1, h2⟩ := aq_sound h
      exact ⟨v, h1, hnext v h2⟩
    | some g =>
      obtain ⟨j, want⟩ := g
      rw [hg] at h
      simp only at h
      cases ht : (all[j]?).bind (·.dst) with
      | none => rw [ht] at h; exact h.elim
      | some t =>
        rw [ht] at h
        have h' : aqG P C w0 (kOf o) ((aOf o).map (ev (envOf a))) (wantedB (envOf a t) want) fun v => XQ P C w0 all K rest (put (envOf a) o.dst v) := h
        have htN : t < a.tmps.size := by
          obtain ⟨o', ho', hd'⟩ := Option.bind_eq_some_iff.1 ht
          have := hroom o' (by rw [Array.getElem?_eq_some_iff] at ho'; obtain ⟨hh, rfl⟩ := ho'; exact Array.mem_toList_iff.2 (Array.getElem_mem hh))
          rw [hd'] at this
          rw [hs]; exact this
        simp only [Region.wanted, hg]
        have hwb : wantedB (envOf a t) want = true ↔ envOf a t = .bool want := by
          unfold wantedB
          cases envOf a t <;> simp
        by_cases hw : envOf a t = .bool want
        · rw [if_pos ((yielded_envOf ht htN want).2 hw)]
          obtain ⟨v, h1, h2⟩ := aq_sound (h'.1 (hwb.2 hw))
          exact ⟨v, h1, hnext v h2⟩
        · rw [if_neg (fun hh => hw ((yielded_envOf ht htN want).1 hh))]
          exact hnext _ (h'.2 (by rw [← Bool.not_eq_true, hwb]; exact hw))
/-- A region that draws its order: one walk of the text's order, in a class of worlds. -/
theorem law_quiet {P : Program} {N : Nat} {id : Nat} {ops : Array Oper} {Q : Post} {e : Env} {w : World} (C : World → Prop) (hm : P.follows .mixedOrders = true) (hB : Region.lexB .any ops = true) (hC : C w.drew)
    (h : XQ P C w ops (fun e' => ∀ w', C w' → Q .normal e' w') ops.toList e) : Law P N (.region id ops true) Q e w := by
  intro hwf a hs he
  subst he
  refine wp_region_quiet (C := C) hm hB hC ?_
  exact xq_sound (N := N) _ a.defers (fun o ho => room_of (List.all_eq_true.1 hwf o ho)) (fun a' hd hs' hk w' hw' => ⟨hd, hs', hk w' hw'⟩) ops.toList (fun _ h => h) a rfl hs h

/-! ### The rules -/
def kXQ (P : Program) (C : World → Prop) (w0 : World) (all : Array Oper) (K : Env → Prop) (rest : List Oper) (e : Env) (d : Option Tmp) : Value → Prop := fun v => XQ P C w0 all K rest (put e d v)
def kGQ (P : Program) (C : World → Prop) (w0 : World) (k : OK) (xs : List Value) (e : Env) (want : Bool) (K : Value → Prop) : Tmp → Prop := fun t => aqG P C w0 k xs (wantedB (e t) want) K
section
variable (P : Program) (C : World → Prop) (w0 w : World) (all : Array Oper) (K : Env → Prop) (e : Env) (k : Value → Prop) (b : Bool)
theorem kXQ_ (d : Option Tmp) (rest : List Oper) (v : Value) : kXQ P C w0 all K rest e d v = XQ P C w0 all K rest (put e d v) := Eq.trans rfl rfl
theorem kGQ_ (o : OK) (xs : List Value) (want : Bool) (t : Tmp) : kGQ P C w0 o xs e want k t = aqG P C w0 o xs (wantedB (e t) want) k := Eq.trans rfl rfl
theorem cK_K (v : Value) : (cK k).K v w = k v := Eq.trans rfl rfl
theorem xq_nil : XQ P C w0 all K [] e = K e := Eq.trans rfl rfl
theorem xq_none (d : Option Tmp) (op : Op) (ty : TypeId) (pos : String) (aft : Array Edge) (rest : List Oper) :
    XQ P C w0 all K (⟨d, op, ty, pos, aft, none⟩ :: rest) e = aq P C w0 (kOf ⟨d, op, ty, pos, aft, none⟩) ((aOf ⟨d, op, ty, pos, aft, none⟩).map (ev e)) (kXQ P C w0 all K rest e d) := Eq.trans rfl rfl
theorem xq_some (d : Option Tmp) (op : Op) (ty : TypeId) (pos : String) (aft : Array Edge) (j : Nat) (want : Bool) (rest : List Oper) :
    XQ P C w0 all K (⟨d, op, ty, pos, aft, some (j, want)⟩ :: rest) e = gX ((all[j]?).bind (·.dst)) (kGQ P C w0 (kOf ⟨d, op, ty, pos, aft, some (j, want)⟩) ((aOf ⟨d, op, ty, pos, aft, some (j, want)⟩).map (ev e)) e want (kXQ P C w0 all K rest e d)) := Eq.trans rfl rfl
theorem aq_load (t : TypeId) (a : Addr) : aq P C w0 (.load t) [.pointer (some a)] k = ldQ C (ldK P t) a k := Eq.trans rfl rfl
theorem ldQ_1 (a : Addr) : ldQ C (some none) a k = getX (cellC C a) k := Eq.trans rfl rfl
theorem ldQ_n (a : Addr) (n : Nat) : ldQ C (some (some n)) a k = getX (readC C a n) (kAg k) := Eq.trans rfl rfl
def rcX (o : Option (List Value)) (p : Option Value) : Option (List Value) := match o, p with | some l, some v => some (l ++ [v]) | _, _ => none
theorem rcX_ (l : List Value) (v : Value) : rcX (some l) (some v) = some (l ++ [v]) := Eq.trans rfl rfl
theorem readC_0 (a : Addr) : readC C a 0 = some [] := Eq.trans rfl rfl
theorem readC_s (a : Addr) (n : Nat) : readC C a (n + 1) = rcX (readC C a n) (cellC C (a.add n)) := by
  simp only [readC, rcX]
theorem readCells_0 (a : Addr) : readCells w a 0 = some [] := Eq.trans rfl rfl
theorem readCells_s (a : Addr) (n : Nat) : readCells w a (n + 1) = rcX (readCells w a n) (w.cell? (a.add n)) := by
  simp only [readCells, rcX]
  all_goals (cases readCells w a n <;> cases w.cell? (a.add n) <;> rfl)
theorem aq_call (f : FuncId) (first cap : Array Value) (args : List Value) : aq P C w0 .call (.func (.func f) first cap :: args) k = (hasBody P f = true ∧ callQ P C f (first.toList ++ args ++ cap.toList).toArray k) := Eq.trans rfl rfl
theorem aq_mv (x : Value) : aq P C w0 .mv [x] k = k x := by simp [aq, pureOK, ap, a1, cK]
theorem aq_pick_and (d x y : Bool) : aq P C w0 .pick [.bool d, gv d (.bool x), .bool y] k = k (.bool (bif d then x else y)) := by simp only [aq, pureOK, ap_pick_and, cK, true_and]
theorem aq_pick_or (d x y : Bool) : aq P C w0 .pick [.bool d, .bool x, gv (!d) (.bool y)] k = k (.bool (bif d then x else y)) := by simp only [aq, pureOK, ap_pick_or, cK, true_and]
theorem aq_pick_bb (d x y : Bool) : aq P C w0 .pick [.bool d, .bool x, .bool y] k = k (.bool (bif d then x else y)) := by simp only [aq, pureOK, ap_pick_bb, cK, true_and]
theorem aq_not (d : Bool) : aq P C w0 (.un .not) [.bool d] k = k (.bool (!d)) := by simp [aq, pureOK, ap_not, cK, isBo]
theorem aq_conv (s d : TypeId) (q : IntKind) (n : Int) : aq P C w0 (.conv s d) [.int q n] k = getX (tInt P d) (kCv P (cK k) w0 s n) := by simp only [aq, convQ, pureOK, isI, ap_conv, true_and]
theorem aq_convl (s d : TypeId) (A : Option Addr) (n m : Nat) : aq P C w0 (.conv s d) [.slice A n m] k = getX (convC P C s d (.slice A n m)) k := Eq.trans rfl rfl
theorem aq_fldA (t : TypeId) (f : Nat) (a : Addr) : aq P C w0 (.fldA t f) [.pointer (some a)] k = getX (fOff P t f) (kF (cK k) w0 a) := by simp only [aq, pureOK, ap_fldA, true_and]
theorem aq_idxA (t : TypeId) (A : Option Addr) (n m : Nat) (q : IntKind) (i : Int) : aq P C w0 (.idxA t) [.slice A n m, .int q i] k = getX (tElem P t) (kIx (cK k) w0 A n i) := by simp only [aq, pureOK, isSl, isI, Bool.and_self, ap_idxA, true_and]
theorem aq_idx (t : TypeId) (s : ByteArray) (q : IntKind) (i : Int) : aq P C w0 (.idx t) [.string s, .int q i] k = (isStr P t = true ∧ (0 ≤ i ∧ i < s.size) ∧ k (.int .u8 (bt s i))) := by simp only [aq, pureOK, isS, isI, Bool.and_self, ap_idx, cK, true_and]
theorem aq_slc_s (t : TypeId) (s : ByteArray) (q q' : IntKind) (l h : Int) : aq P C w0 (.slc t true true) [.string s, .int q l, .int q' h] k = (isStr P t = true ∧ (0 ≤ l ∧ l ≤ h ∧ h ≤ s.size) ∧ k (.string (s.extract l.toNat h.toNat))) := by simp only [aq, pureOK, isS, isI, Bool.and_self, ap_slc_s, cK, true_and]
theorem aq_slc_l (t : TypeId) (s : ByteArray) (q : IntKind) (l : Int) : aq P C w0 (.slc t true false) [.string s, .int q l] k = (isStr P t = true ∧ (0 ≤ l ∧ l ≤ s.size) ∧ k (.string (s.extract l.toNat s.size))) := by simp only [aq, pureOK, isS, isI, Bool.and_self, ap_slc_l, cK, true_and]
theorem aq_slc_h (t : TypeId) (s : ByteArray) (q : IntKind) (h : Int) : aq P C w0 (.slc t false true) [.string s, .int q h] k = (isStr P t = true ∧ (0 ≤ h ∧ h ≤ s.size) ∧ k (.string (s.extract 0 h.toNat))) := by simp only [aq, pureOK, isS, isI, Bool.and_self, ap_slc_h, cK, true_and]
theorem aq_ext (i : Nat) (vs : Array Value) : aq P C w0 (.ext i) [.tuple vs] k = getX vs[i]? (kV (cK k) w0) := by simp only [aq, pureOK, ap_ext, true_and]
theorem aq_nilc (a : Addr) : aq P C w0 .nilc [.pointer (some a)] k = k (.pointer (some a)) := by simp only [aq, pureOK, ap_nilc, cK, true_and]
theorem aq_len_s (t ty : TypeId) (s : ByteArray) : aq P C w0 (.bi .len #[t] ty) [.string s] k = (isStr P t = true ∧ k (.int .i64 s.size)) := by simp only [aq, ap_len_s, cK]; simp [pureOK, isS]
theorem aq_len_v (t ty : TypeId) (A : Option Addr) (n m : Nat) : aq P C w0 (.bi .len #[t] ty) [.slice A n m] k = ((tElem P t).isSome = true ∧ k (.int .i64 n)) := by simp only [aq, ap_len_v, cK]; simp [pureOK, isSl]
section
variable (t : TypeId) (g : Bool) (q : IntKind) (m n : Int) (x y : ByteArray)
theorem qb_add : aq P C w0 (.bin .add t g) [.int q m, .int q n] k = k (.int q (q.wrap (m + n))) := by simp [aq, pureOK, opI, isI, b_add, cK]
theorem qb_sub : aq P C w0 (.bin .sub t g) [.int q m, .int q n] k = k (.int q (q.wrap (m - n))) := by simp [aq, pureOK, opI, isI, b_sub, cK]
theorem qb_eql : aq P C w0 (.bin .eql t g) [.int q m, .int q n] k = k (.bool (decide (m = n))) := by simp only [aq, b_eql, cK]; simp [pureOK, opI, isI]
theorem qb_neq : aq P C w0 (.bin .neq t g) [.int q m, .int q n] k = k (.bool (decide (m ≠ n))) := by simp only [aq, b_neq, cK]; simp [pureOK, opI, isI]
theorem qb_lss : aq P C w0 (.bin .lss t g) [.int q m, .int q n] k = k (.bool (decide (m < n))) := by simp only [aq, b_lss, cK]; simp [pureOK, opI, isI]
theorem qb_leq : aq P C w0 (.bin .leq t g) [.int q m, .int q n] k = k (.bool (decide (m ≤ n))) := by simp only [aq, b_leq, cK]; simp [pureOK, opI, isI]
theorem qb_gtr : aq P C w0 (.bin .gtr t g) [.int q m, .int q n] k = k (.bool (decide (n < m))) := by simp only [aq, b_gtr, cK]; simp [pureOK, opI, isI]
theorem qb_geq : aq P C w0 (.bin .geq t g) [.int q m, .int q n] k = k (.bool (decide (n ≤ m))) := by simp only [aq, b_geq, cK]; simp [pureOK, opI, isI]
theorem qb_seql : aq P C w0 (.bin .eql t g) [.string x, .string y] k = k (.bool (decide (x = y))) := by simp only [aq, b_seql, cK]; simp [pureOK, opS, isS]
theorem qb_sneq : aq P C w0 (.bin .neq t g) [.string x, .string y] k = k (.bool (decide (x ≠ y))) := by simp only [aq, b_sneq, cK]; simp [pureOK, opS, isS]
theorem qb_cat : aq P C w0 (.bin .add t g) [.string x, .string y] k = (x.size + y.size ≤ 9223372036854775807 ∧ k (.string (x ++ y))) := by simp only [aq, b_cat, cK]; simp [pureOK, opS, isS]
theorem q_pure {o : OK} {xs : List Value} {v : Value} (h : ∀ k, aq P C w0 o xs k = k v) : aqG P C w0 o xs b k = k (gv b v) := by
  unfold aqG; rw [h]; cases b <;> simp [gv]
theorem q_pure2 {o : OK} {xs : List Value} {v : Value} {p : Prop} (h : ∀ k, aq P C w0 o xs k = (p ∧ k v)) : aqG P C w0 o xs b k = ((b = true → p) ∧ k (gv b v)) := by
  unfold aqG; rw [h]; cases b <;> simp [gv]
theorem qg_mv (v : Value) : aqG P C w0 .mv [v] b k = k (gv b v) := q_pure P C w0 k b fun k => aq_mv P C w0 k v
theorem qg_eql : aqG P C w0 (.bin .eql t g) [.int q m, .int q n] b k = k (gv b (.bool (decide (m = n)))) := q_pure P C w0 k b fun k => qb_eql P C w0 k t g q m n
theorem qg_neq : aqG P C w0 (.bin .neq t g) [.int q m, .int q n] b k = k (gv b (.bool (decide (m ≠ n)))) := q_pure P C w0 k b fun k => qb_neq P C w0 k t g q m n
theorem qg_lss : aqG P C w0 (.bin .lss t g) [.int q m, .int q n] b k = k (gv b (.bool (decide (m < n)))) := q_pure P C w0 k b fun k => qb_lss P C w0 k t g q m n
theorem qg_leq : aqG P C w0 (.bin .leq t g) [.int q m, .int q n] b k = k (gv b (.bool (decide (m ≤ n)))) := q_pure P C w0 k b fun k => qb_leq P C w0 k t g q m n
theorem qg_gtr : aqG P C w0 (.bin .gtr t g) [.int q m, .int q n] b k = k (gv b (.bool (decide (n < m)))) := q_pure P C w0 k b fun k => qb_gtr P C w0 k t g q m n
theorem qg_geq : aqG P C w0 (.bin .geq t g) [.int q m, .int q n] b k = k (gv b (.bool (decide (n ≤ m)))) := q_pure P C w0 k b fun k => qb_geq P C w0 k t g q m n
theorem qg_add : aqG P C w0 (.bin .add t g) [.int q m, .int q n] b k = k (gv b (.int q (q.wrap (m + n)))) := q_pure P C w0 k b fun k => qb_add P C w0 k t g q m n
theorem qg_seql : aqG P C w0 (.bin .eql t g) [.string x, .string y] b k = k (gv b (.bool (decide (x = y)))) := q_pure P C w0 k b fun k => qb_seql P C w0 k t g x y
theorem qg_sneq : aqG P C w0 (.bin .neq t g) [.string x, .string y] b k = k (gv b (.bool (decide (x ≠ y)))) := q_pure P C w0 k b fun k => qb_sneq P C w0 k t g x y
end
theorem qg_not (d : Bool) : aqG P C w0 (.un .not) [.bool d] b k = k (gv b (.bool (!d))) := q_pure P C w0 k b fun k => aq_not P C w0 k d
theorem qg_pick_bb (d x y : Bool) : aqG P C w0 .pick [.bool d, .bool x, .bool y] b k = k (gv b (.bool (bif d then x else y))) := q_pure P C w0 k b fun k => aq_pick_bb P C w0 k d x y
theorem qg_pick_and (d x y : Bool) : aqG P C w0 .pick [.bool d, gv (b && d) (.bool x), .bool y] b k = k (gv b (.bool (bif d then x else y))) := by
  cases b <;> cases d <;> simp [aqG, aq, pureOK, ap, apPick, cK, gv]
theorem qg_pick_or (d x y : Bool) : aqG P C w0 .pick [.bool d, .bool x, gv (b && !d) (.bool y)] b k = k (gv b (.bool (bif d then x else y))) := by
  cases b <;> cases d <;> simp [aqG, aq, pureOK, ap, apPick, cK, gv]
theorem qg_idx (t : TypeId) (s : ByteArray) (q : IntKind) (i : Int) : aqG P C w0 (.idx t) [.string s, .int q i] b k = ((b = true → isStr P t = true ∧ (0 ≤ i ∧ i < s.size)) ∧ k (gv b (.int .u8 (bt s i)))) := q_pure2 P C w0 k b fun k => by rw [aq_idx]; simp only [and_assoc]
theorem qg_len_s (t ty : TypeId) (s : ByteArray) : aqG P C w0 (.bi .len #[t] ty) [.string s] b k = ((b = true → isStr P t = true) ∧ k (gv b (.int .i64 s.size))) := q_pure2 P C w0 k b fun k => aq_len_s P C w0 k t ty s
theorem qg_len_v (t ty : TypeId) (A : Option Addr) (n m : Nat) : aqG P C w0 (.bi .len #[t] ty) [.slice A n m] b k = ((b = true → (tElem P t).isSome = true) ∧ k (gv b (.int .i64 n))) := q_pure2 P C w0 k b fun k => aq_len_v P C w0 k t ty A n m
theorem qg_nilc (a : Addr) : aqG P C w0 .nilc [.pointer (some a)] b k = k (gv b (.pointer (some a))) := q_pure P C w0 k b fun k => aq_nilc P C w0 k a
theorem qg_fldA (t : TypeId) (f o : Nat) (a : Addr) (h : fOff P t f = some o) : aqG P C w0 (.fldA t f) [.pointer (some a)] b k = k (gv b (.pointer (some (a.add o)))) := q_pure P C w0 k b fun k => by rw [aq_fldA, h, getX_s]; rfl
theorem qg_load (t : TypeId) (a : Addr) (v : Value) (h : ldK P t = some none) (h2 : cellC C a = some v) : aqG P C w0 (.load t) [.pointer (some a)] b k = k (gv b v) := q_pure P C w0 k b fun k => by rw [aq_load, h, ldQ_1, h2, getX_s]
theorem qg_call (xs : List Value) : aqG P C w0 .call xs b k = ((b = true → aq P C w0 .call xs k) ∧ (b = false → k undef)) := Eq.trans rfl rfl
theorem aqG_t (o : OK) (xs : List Value) : aqG P C w0 o xs true k = aq P C w0 o xs k := by simp [aqG]
theorem aqG_f (o : OK) (xs : List Value) : aqG P C w0 o xs false k = k undef := by simp [aqG]
theorem qstrip0 (o : OK) (b1 : Bool) (x : Value) (r : List Value) (h : sub b b1) : aqG P C w0 o (gv b1 x :: r) b k = aqG P C w0 o (x :: r) b k := by
  unfold aqG
  cases b
  · simp
  · rw [h rfl]; rfl
theorem qstrip1 (o : OK) (b1 : Bool) (x y : Value) (r : List Value) (h : sub b b1) : aqG P C w0 o (y :: gv b1 x :: r) b k = aqG P C w0 o (y :: x :: r) b k := by
  unfold aqG
  cases b
  · simp
  · rw [h rfl]; rfl
theorem qstrip2 (o : OK) (b1 : Bool) (x y z : Value) (r : List Value) (h : sub b b1) : aqG P C w0 o (y :: z :: gv b1 x :: r) b k = aqG P C w0 o (y :: z :: x :: r) b k := by
  unfold aqG
  cases b
  · simp
  · rw [h rfl]; rfl
end
attribute [push_cast] kXQ_ kGQ_ cK_K xq_nil xq_none xq_some aq_load ldQ_1 ldQ_n rcX_ readC_0 readC_s readCells_0 readCells_s aq_call aq_mv aq_pick_and aq_pick_or aq_pick_bb aq_not aq_conv aq_convl aq_fldA aq_idxA aq_idx aq_slc_s aq_slc_l aq_slc_h aq_ext aq_nilc aq_len_s aq_len_v qb_add qb_sub qb_eql qb_neq qb_lss qb_leq qb_gtr qb_geq qb_seql qb_sneq qb_cat qg_mv qg_eql qg_neq qg_lss qg_leq qg_gtr qg_geq qg_add qg_seql qg_sneq qg_not qg_pick_bb qg_pick_and qg_pick_or qg_idx qg_len_s qg_len_v qg_nilc qg_fldA qg_load qg_call aqG_t aqG_f qstrip0 qstrip1 qstrip2
end Go.Sx
/-! New blocks behind a world: cells read and written by literal place. -/
namespace Go.Sx
open Go Go.RowKit
set_option linter.unusedSimpArgs false

abbrev Blk := List Value × TypeId
def al (w : World) (l : List Blk) : World := { w with heap := w.heap ++ (l.map fun p => Obj.cells p.1.toArray p.2).toArray }
theorem al_alloc (w : World) (v : Array Value) (t : TypeId) : w.alloc (.cells v t) = al w [(v.toList, t)] := by
  unfold al World.alloc
  simp
theorem al_al (w : World) (l m : List Blk) : al (al w l) m = al w (l ++ m) := by
  simp [al]
theorem al_nil (w : World) : al w [] = w := by simp [al]
theorem al_size (w : World) (l : List Blk) : (al w l).heap.size = w.heap.size + l.length := by simp [al]
theorem al_heap_old (w : World) (l : List Blk) (k : Nat) (h : k < w.heap.size) : (al w l).heap[k]? = w.heap[k]? := by
  simp only [al]; rw [Array.getElem?_append_left h]
theorem al_heap_new (w : World) (l : List Blk) (k : Nat) : (al w l).heap[w.heap.size + k]? = (l[k]?).map fun p => Obj.cells p.1.toArray p.2 := by
  simp only [al]; rw [Array.getElem?_append_right (by omega)]; simp
def cellL (l : List Blk) (k i : Nat) : Option Value := (l[k]?).bind fun p => p.1[i]?
theorem cellL_0 (p : Blk) (l : List Blk) (i : Nat) : cellL (p :: l) 0 i = p.1[i]? := by simp [cellL]
theorem cellL_s (p : Blk) (l : List Blk) (k i : Nat) : cellL (p :: l) (k + 1) i = cellL l k i := by simp [cellL]
theorem al_cell (w : World) (l : List Blk) (k i : Nat) : (al w l).cell? ⟨w.heap.size + k, i, none⟩ = cellL l k i := by
  unfold World.cell? cellL
  simp only [al_heap_new]
  cases l[k]? <;> simp
theorem al_cell0 (w : World) (l : List Blk) (i : Nat) : (al w l).cell? ⟨w.heap.size, i, none⟩ = cellL l 0 i := al_cell w l 0 i
theorem al_cell_old (w : World) (l : List Blk) (a : Addr) (h : a.block < w.heap.size) : (al w l).cell? a = w.cell? a := World.cell?_of_block (al_heap_old w l a.block h)
theorem al_frz (w : World) (l : List Blk) (k i : Nat) : (al w l).frozen? ⟨w.heap.size + k, i, none⟩ = false := by
  unfold World.frozen?
  simp only [al_heap_new]
  cases l[k]? <;> simp
theorem al_frz0 (w : World) (l : List Blk) (i : Nat) : (al w l).frozen? ⟨w.heap.size, i, none⟩ = false := al_frz w l 0 i
def setL : List Blk → Nat → Nat → Value → List Blk
  | [], _, _, _ => []
  | p :: l, 0, i, v => (p.1.set i v, p.2) :: l
  | p :: l, k + 1, i, v => p :: setL l k i v
theorem setL_map (v : Value) (i : Nat) : ∀ (l : List Blk) (k : Nat), (setL l k i v).map (fun p => Obj.cells p.1.toArray p.2) = (l.map fun p => Obj.cells p.1.toArray p.2).modify k (fun | .cells c elem frozen => .cells (c.setIfInBounds i v) elem frozen | o => o)
  | [], k => by simp [setL]
  | p :: l, 0 => by simp [setL, List.modify]
  | p :: l, k + 1 => by simp only [setL, List.map_cons, setL_map v i l k, List.modify_succ_cons]
theorem al_set (w : World) (l : List Blk) (k i : Nat) (v : Value) : (al w l).setCell ⟨w.heap.size + k, i, none⟩ v = al w (setL l k i v) := by
  unfold World.setCell al
  simp only [setL_map]
  congr 1
  apply Array.ext'
  simp only [Array.toList_modify, Array.toList_append, Option.isSome_none, Bool.false_eq_true, if_false]
  apply List.ext_getElem?
  intro j
  by_cases hj : j < w.heap.size
  · have hne : ¬ w.heap.size + k = j := by omega
    rw [List.getElem?_modify, List.getElem?_append_left (by simpa using hj), List.getElem?_append_left (by simpa using hj)]
    simp only [hne, if_false]
    simp
  · obtain ⟨m, rfl⟩ : ∃ m, j = w.heap.size + m := ⟨j - w.heap.size, by omega⟩
    rw [List.getElem?_modify, List.getElem?_append_right (by simp), List.getElem?_append_right (by simp)]
    simp only [Array.length_toList, Nat.add_sub_cancel_left, List.getElem?_modify, Nat.add_left_cancel_iff]
    split <;> rfl
theorem al_set0 (w : World) (l : List Blk) (i : Nat) (v : Value) : (al w l).setCell ⟨w.heap.size, i, none⟩ v = al w (setL l 0 i v) := al_set w l 0 i v
theorem al_below (w : World) (l : List Blk) : Below w.heap.size w (al w l) := ⟨rfl, rfl, rfl, by rw [al_size]; omega, fun k hk => al_heap_old w l k hk⟩
theorem Below_al {B : Nat} {w w1 : World} (h : Below B w w1) (l : List Blk) (hB : B ≤ w.heap.size) : Below B w (al w1 l) := h.trans ((al_below w1 l).mono (Nat.le_trans hB h.size))
attribute [push_cast] al_alloc al_al al_size cellL_0 cellL_s al_cell al_cell0 al_frz al_frz0 setL al_set al_set0 List.cons_append List.nil_append List.set_cons_zero List.set_cons_succ
theorem cellC_below {w : World} {a : Addr} {v : Value} {B : Nat} (ha : a.block < B) (h : w.cell? a = some v) : cellC (Below B w) a = some v :=
  cellC_of w (Below.refl _ _) fun _ hw => (hw.cell ha).trans h
theorem callQ_of {P : Program} {B : Nat} {w0 : World} {f : FuncId} {args : Array Value} {v : Value} {K : Value → Prop} (h : ∀ w, Calls P f args w fun e w' => e = .returned v ∧ Below w.heap.size w w') (hB : B ≤ w0.heap.size) (hk : K v) : callQ P (Below B w0) f args K :=
  ⟨v, fun w hw => (h w).mono fun _ _ hh => ⟨hh.1, hw.trans (hh.2.mono (Nat.le_trans hB hw.size))⟩, hk⟩

/-! ### Guarded reads -/
def gGet (b : Bool) (o : Option Value) (w : World) (c : Cont) : Prop := match o with | some v => c.K (gv b v) w | none => (b = true → False) ∧ (b = false → c.K undef w)
theorem gGet_ (b : Bool) (v : Value) (w : World) (c : Cont) : gGet b (some v) w c = c.K (gv b v) w := Eq.trans rfl rfl
def qGet (b : Bool) (o : Option Value) (k : Value → Prop) : Prop := match o with | some v => k (gv b v) | none => (b = true → False) ∧ (b = false → k undef)
theorem qGet_ (b : Bool) (v : Value) (k : Value → Prop) : qGet b (some v) k = k (gv b v) := Eq.trans rfl rfl
def fP (a : Addr) : Option Nat → Option Value | some o => some (.pointer (some (a.add o))) | none => none
theorem fP_ (a : Addr) (o : Nat) : fP a (some o) = some (.pointer (some (a.add o))) := Eq.trans rfl rfl
def agO : Option (List Value) → Option Value | some l => some (.agg l.toArray) | none => none
theorem agO_ (l : List Value) : agO (some l) = some (.agg l.toArray) := Eq.trans rfl rfl
def ldV (o : Option (Option Nat)) (w : World) (a : Addr) : Option Value := match o with | some none => w.cell? a | some (some n) => agO (readCells w a n) | none => none
theorem ldV_1 (w : World) (a : Addr) : ldV (some none) w a = w.cell? a := Eq.trans rfl rfl
theorem ldV_n (w : World) (a : Addr) (n : Nat) : ldV (some (some n)) w a = agO (readCells w a n) := Eq.trans rfl rfl
noncomputable def ldVC (C : World → Prop) (o : Option (Option Nat)) (a : Addr) : Option Value := match o with | some none => cellC C a | some (some n) => agO (readC C a n) | none => none
theorem ldVC_1 (C : World → Prop) (a : Addr) : ldVC C (some none) a = cellC C a := Eq.trans rfl rfl
theorem ldVC_n (C : World → Prop) (a : Addr) (n : Nat) : ldVC C (some (some n)) a = agO (readC C a n) := Eq.trans rfl rfl
section
variable (P : Program) (C : World → Prop) (w0 w : World) (b : Bool) (c : Cont) (k : Value → Prop)
theorem g_fldA (t : TypeId) (f : Nat) (a : Addr) : gA P (.fldA t f) [.pointer (some a)] b w c = gGet b (fP a (fOff P t f)) w c := by
  unfold gA gGet fP
  rw [ap_fldA]
  cases fOff P t f <;> cases b <;> simp [getX, kF, gv]
theorem g_load (t : TypeId) (a : Addr) : gA P (.load t) [.pointer (some a)] b w c = gGet b (ldV (ldK P t) w a) w c := by
  unfold gA gGet
  rw [show ap P (.load t) [.pointer (some a)] w c = ldX (ldK P t) a w (kV c w) from ap_load ..]
  cases ldK P t with
  | none => cases b <;> simp [ldX, ldV]
  | some o =>
    cases o with
    | none =>
      simp only [ldX, ldV]
      cases w.cell? a <;> cases b <;> simp [getX, kV, gv]
    | some n =>
      simp only [ldX, ldV]
      cases readCells w a n <;> cases b <;> simp [getX, kV, kAg, agO, gv]
theorem q_fldA (t : TypeId) (f : Nat) (a : Addr) : aqG P C w0 (.fldA t f) [.pointer (some a)] b k = qGet b (fP a (fOff P t f)) k := by
  unfold aqG qGet fP
  rw [aq_fldA]
  cases fOff P t f <;> cases b <;> simp [getX, kF, cK, gv]
theorem q_load (t : TypeId) (a : Addr) : aqG P C w0 (.load t) [.pointer (some a)] b k = qGet b (ldVC C (ldK P t) a) k := by
  unfold aqG qGet
  rw [aq_load]
  cases ldK P t with
  | none => cases b <;> simp [ldQ, ldVC]
  | some o =>
    cases o with
    | none =>
      simp only [ldQ, ldVC]
      cases cellC C a <;> cases b <;> simp [getX, gv]
    | some n =>
      simp only [ldQ, ldVC]
      cases readC C a n <;> cases b <;> simp [getX, kAg, agO, gv]
theorem q_convl (s d : TypeId) (A : Option Addr) (n m : Nat) : aqG P C w0 (.conv s d) [.slice A n m] b k = qGet b (convC P C s d (.slice A n m)) k := by
  unfold aqG qGet
  rw [aq_convl]
  cases convC P C s d (.slice A n m) <;> cases b <;> simp [getX, gv]
end
attribute [push_cast] q_convl Option.isSome_none Option.isSome_some Option.toList_none Option.toList_some List.append_nil Int.toNat_natCast Nat.zero_add Nat.add_zero gGet_ qGet_ fP_ ldV_1 ldV_n agO_ ldVC_1 ldVC_n g_fldA g_load q_fldA q_load

/-! ### Shifts and bits -/
section
variable (P : Program) (t : TypeId) (g : Bool) (k yk : IntKind) (a b : Int) (w : World) (c : Cont)
theorem getR_pure (v : Value) : getR ((pure v : Sem Value).run P w) c = c.K v w := by
  apply propext
  constructor
  · rintro ⟨v', w', h1, h2⟩
    cases h1
    exact h2
  · intro h
    exact ⟨v, w, rfl, h⟩
theorem binRun_shl : binRun .shl t g (.int k a) (.int yk b) = Op.shift .shl k a yk b := by cases g <;> rfl
theorem binRun_shr : binRun .shr t g (.int k a) (.int yk b) = Op.shift .shr k a yk b := by cases g <;> rfl
theorem b_shl : ap P (.bin .shl t g) [.int k a, .int yk b] w c = getR ((Op.shift .shl k a yk b).run P w) c := by
  rw [show ap P (.bin .shl t g) [.int k a, .int yk b] w c = getR ((binRun .shl t g (.int k a) (.int yk b)).run P w) c from rfl, binRun_shl]
theorem b_shr : ap P (.bin .shr t g) [.int k a, .int yk b] w c = getR ((Op.shift .shr k a yk b).run P w) c := by
  rw [show ap P (.bin .shr t g) [.int k a, .int yk b] w c = getR ((binRun .shr t g (.int k a) (.int yk b)).run P w) c from rfl, binRun_shr]
theorem b_or : ap P (.bin .or t g) [.int k a, .int k b] w c = c.K (.int k (bits .or k a b)) w := by
  rw [show ap P (.bin .or t g) [.int k a, .int k b] w c = getR ((binRun .or t g (.int k a) (.int k b)).run P w) c from rfl, show binRun .or t g (.int k a) (.int k b) = pure (.int k (bits .or k a b)) from by cases g <;> simp [binRun, binOp_or, intBits_or] <;> rfl, getR_pure]
theorem b_and : ap P (.bin .and t g) [.int k a, .int k b] w c = c.K (.int k (bits .and k a b)) w := by
  rw [show ap P (.bin .and t g) [.int k a, .int k b] w c = getR ((binRun .and t g (.int k a) (.int k b)).run P w) c from rfl, show binRun .and t g (.int k a) (.int k b) = pure (.int k (bits .and k a b)) from by cases g <;> simp [binRun, binOp_and, intBits_and] <;> rfl, getR_pure]
end
attribute [push_cast] true_imp_iff false_imp_iff Bool.true_eq_false Bool.false_eq_true and_true true_and getR_pure b_shl b_shr b_or b_and

/-! ### Stores into a block of an opaque world -/
def scv (b : Bool) (o : Option Value) (v : Value) : Option Value := match b, o with | true, some _ => some v | _, o => o
theorem scv_t (u v : Value) : scv true (some u) v = some v := Eq.trans rfl rfl
theorem scv_f (o : Option Value) (v : Value) : scv false o v = o := by cases o <;> rfl
theorem sc_cell (w : World) (b i j : Nat) (v : Value) : (w.setCell ⟨b, i, none⟩ v).cell? ⟨b, j, none⟩ = scv (i == j) (w.cell? ⟨b, j, none⟩) v := by
  unfold World.setCell World.cell?
  simp only [Array.getElem?_modify, if_true]
  cases w.heap[b]? with
  | none => cases (i == j) <;> rfl
  | some o =>
    cases o <;> simp only [Option.map_some, Option.isSome_none, Bool.false_eq_true, if_false] <;> try (cases (i == j) <;> rfl)
    rename_i c e fz
    rw [Array.getElem?_setIfInBounds]
    by_cases h : i = j
    · subst h
      simp only [if_true, beq_self_eq_true]
      split
      · rename_i h2; rw [Array.getElem?_eq_getElem h2]; rfl
      · rename_i h2; rw [Array.getElem?_eq_none (by omega)]; rfl
    · rw [if_neg h, show (i == j) = false from by simpa using h, scv_f]
theorem sc_frz (w : World) (a p : Addr) (v : Value) : (w.setCell a v).frozen? p = w.frozen? p := by
  unfold World.setCell World.frozen?
  simp only [Array.getElem?_modify]
  by_cases h : a.block = p.block
  · rw [if_pos h]
    cases w.heap[p.block]? with
    | none => rfl
    | some o => cases o <;> rfl
  · rw [if_neg h]
theorem sc_size (w : World) (a : Addr) (v : Value) : (w.setCell a v).heap.size = w.heap.size := by simp [World.setCell]
theorem new_cell {w w1 : World} {vs : List Value} {T : TypeId} {B : Nat} (hb : Below B (al w [(vs, T)]) w1) (hB : w.heap.size < B) (i : Nat) : w1.cell? ⟨w.heap.size, i, none⟩ = vs[i]? ∧ w1.frozen? ⟨w.heap.size, i, none⟩ = false :=
  ⟨(hb.cell (p := ⟨w.heap.size, i, none⟩) hB).trans (al_cell0 ..), (hb.frozen (p := ⟨w.heap.size, i, none⟩) hB).trans (al_frz0 ..)⟩
attribute [push_cast] scv_t scv_f sc_cell sc_frz sc_size
theorem ap_pick_t (P : Program) (x y : Value) (w : World) (c : Cont) : ap P .pick [.bool true, x, y] w c = c.K x w := Eq.trans rfl rfl
theorem ap_pick_f (P : Program) (x y : Value) (w : World) (c : Cont) : ap P .pick [.bool false, x, y] w c = c.K y w := Eq.trans rfl rfl
attribute [push_cast] ap_pick_t ap_pick_f
theorem wanted_un (b : Bool) : wantedB undef b = false := Eq.trans rfl rfl
attribute [push_cast] wanted_un
end Go.Sx
/-! More guarded operations. -/
namespace Go.Sx
open Go Go.RowKit
set_option linter.unusedSimpArgs false
def cvO (o o2 : Option IntKind) (n : Int) : Option Value := match o, o2 with | some k, some _ => some (.int k (k.wrap n)) | _, _ => none
theorem cvO_ (k k2 : IntKind) (n : Int) : cvO (some k) (some k2) n = some (.int k (k.wrap n)) := Eq.trans rfl rfl
def ixO (o : Option (TypeId × Nat)) (A : Option Addr) (i : Int) : Option Value := match o, A with | some e, some a => some (.pointer (some (a.add (i.toNat * e.2)))) | _, _ => none
theorem ixO_ (e : TypeId × Nat) (a : Addr) (i : Int) : ixO (some e) (some a) i = some (.pointer (some (a.add (i.toNat * e.2)))) := Eq.trans rfl rfl
section
variable (P : Program) (C : World → Prop) (w0 w : World) (b : Bool) (c : Cont) (k : Value → Prop)
theorem g_conv (s d : TypeId) (q : IntKind) (n : Int) : gA P (.conv s d) [.int q n] b w c = gGet b (cvO (tInt P d) (tInt P s) n) w c := by
  unfold gA gGet
  rw [ap_conv]
  cases h1 : tInt P d <;> cases h2 : tInt P s <;> cases b <;> simp [getX, kCv, cvO, gv, h2]
theorem q_conv (s d : TypeId) (q : IntKind) (n : Int) : aqG P C w0 (.conv s d) [.int q n] b k = qGet b (cvO (tInt P d) (tInt P s) n) k := by
  unfold aqG qGet
  rw [aq_conv]
  cases h1 : tInt P d <;> cases h2 : tInt P s <;> cases b <;> simp [getX, kCv, cK, cvO, gv, h2]
theorem g_idxA (t : TypeId) (A : Option Addr) (n m : Nat) (q : IntKind) (i : Int) : gA P (.idxA t) [.slice A n m, .int q i] b w c = ((b = true → 0 ≤ i ∧ i < n) ∧ gGet b (ixO (tElem P t) A i) w c) := by
  unfold gA gGet
  rw [ap_idxA]
  cases h1 : tElem P t <;> cases A <;> cases b <;> simp [getX, kIx, kIa, ixO, gv]
theorem q_idxA (t : TypeId) (A : Option Addr) (n m : Nat) (q : IntKind) (i : Int) : aqG P C w0 (.idxA t) [.slice A n m, .int q i] b k = ((b = true → 0 ≤ i ∧ i < n) ∧ qGet b (ixO (tElem P t) A i) k) := by
  unfold aqG qGet
  rw [aq_idxA]
  cases h1 : tElem P t <;> cases A <;> cases b <;> simp [getX, kIx, kIa, cK, ixO, gv]
theorem g_nilc (a : Addr) : gA P .nilc [.pointer (some a)] b w c = c.K (gv b (.pointer (some a))) w := gA_pure P w c b fun _ => rfl
end
attribute [push_cast] cvO_ ixO_ g_conv q_conv g_idxA q_idxA g_nilc
end Go.Sx
/-! Regions that draw their order: a plan of all orders, checked by the kernel, run by the same rules. -/
namespace Go.Sx
open Go Go.RowKit
set_option linter.unusedVariables false
set_option linter.unusedSimpArgs false

inductive Pl where
  | done
  | take (i : Nat) (p : Pl)
  | alt (i : Nat) (p rest : Pl)
  | nil
def Pl.heads : Pl → List Nat
  | .alt i _ r => i :: r.heads
  | _ => []
def notLC : OK → Bool | .load _ => false | .call => false | _ => true
def Pl.ok (md : Region.Mode) (ops : Array Oper) : Bool → Pl → Array Bool → Bool
  | true, .done, l => (Region.ready md ops l).isEmpty
  | true, .take i p, l => Region.free md ops l i && (Region.ready md ops l).contains i && ((ops[i]?).map fun o => notLC (kOf o)).getD false && p.ok md ops true (l.setIfInBounds i true)
  | true, .alt i p r, l => (Pl.alt i p r).heads == Region.ready md ops l && p.ok md ops true (l.setIfInBounds i true) && r.ok md ops false l
  | false, .alt i p r, l => p.ok md ops true (l.setIfInBounds i true) && r.ok md ops false l
  | false, .nil, _ => true
  | _, _, _ => false
/-- One operation, drawn. -/
def opA (P : Program) (all : Array Oper) (o : Oper) (e : Env) (w : World) (c : Cont) : Prop :=
  match o.guard with
  | none => ap P (kOf o) ((aOf o).map (ev e)) w c
  | some (j, want) => ∃ t, (all[j]?).bind (·.dst) = some t ∧ gA P (kOf o) ((aOf o).map (ev e)) (wantedB (e t) want) w c
def opT (P : Program) (all : Array Oper) (o : Oper) (e : Env) (w : World) (K : Value → Prop) : Prop :=
  match o.guard with
  | none => aq P (fun _ => True) w (kOf o) ((aOf o).map (ev e)) K
  | some (j, want) => ∃ t, (all[j]?).bind (·.dst) = some t ∧ aqG P (fun _ => True) w (kOf o) ((aOf o).map (ev e)) (wantedB (e t) want) K
def XP (P : Program) (all : Array Oper) (K : Env → World → Prop) : Pl → Env → World → Prop
  | .done, e, w => K e w
  | .take i p, e, w => ∃ o, all[i]? = some o ∧ opT P all o e w fun v => XP P all K p (put e o.dst v) w
  | .alt i p r, e, w => (∃ o, all[i]? = some o ∧ opA P all o e w ⟨fun v w' => XP P all K p (put e o.dst v) w', fun _ _ => False⟩) ∧ XP P all K r e w
  | .nil, _, _ => True

theorem take_yields {P : Program} {o : Oper} {a : Act} {K : Value → Prop} {w0 : World} (hn : notLC (kOf o) = true) (h : aq P (fun _ => True) w0 (kOf o) ((aOf o).map (ev (envOf a))) K) :
    ∃ v, (∀ w, (execOp a.eval o).run P w = .ok (.value v) w) ∧ K v := by
  have hp' : (pureOK (kOf o) ((aOf o).map (ev (envOf a))) = true ∧ ap P (kOf o) ((aOf o).map (ev (envOf a))) w0 (cK K)) ∨ ∃ v, (∀ w, True → (execOp (ev (envOf a)) o).run P w = .ok (.value v) w) ∧ K v := by
    unfold aq at h
    split at h
    · rename_i hk; rw [hk] at hn; cases hn
    · rename_i hk; rw [hk] at hn; cases hn
    · rename_i hk; exact convQ_sound hk h
    · exact .inl h
  rcases hp' with hp | ⟨v, h1, h2⟩
  case inr => exact ⟨v, fun w => by rw [eval_envOf]; exact h1 w trivial, h2⟩
  obtain ⟨v, h1, h2⟩ := pure_any hp.1 hp.2
  refine ⟨v, fun w => ?_, h2⟩
  obtain ⟨s, he, v', w', hr, hv, hw'⟩ := ap_soundV (kOf_val hp.1) (h1 w)
  rw [eval_envOf, he]
  simp only [Sem.run_bind, hr, Result.andThen, Sem.run_pure]
  rw [hv, hw']
def Pl.depth : Pl → Nat
  | .done => 0
  | .take _ p => p.depth + 1
  | .alt _ p r => Nat.max (p.depth + 1) r.depth
  | .nil => 0
theorem opA_sound {P : Program} {N : Nat} {all : Array Oper} {i : Nat} {o : Oper} {a : Act} {w : World} {c : Cont} {Q2 : Exit → Act → World → Prop} {next : Act → World → Prop} (hi : all[i]? = some o) (hs : a.tmps.size = N) (hroom : ∀ o ∈ all.toList, room N o.dst)
    (h : opA P all o (envOf a) w c) (hk : ∀ v w', c.K v w' → next (a.put o.dst v) w') (hq : ∀ ch w', c.Q ch w' → Q2 (.panic ch) a w') : wpOp P all Q2 i next a w := by
  unfold wpOp
  simp only [hi]
  unfold opA at h
  have hop : ap P (kOf o) ((aOf o).map (ev (envOf a))) w c → o.wp P a w next Q2 := fun hx => opX_sound hx hk hq
  cases hg : o.guard with
  | none =>
    rw [hg] at h
    simp only [Region.wanted, hg, if_true]
    exact .inl (hop h)
  | some g =>
    obtain ⟨j, want⟩ := g
    rw [hg] at h
    obtain ⟨t, ht, h⟩ := h
    have htN : t < a.tmps.size := by
      obtain ⟨o', ho', hd'⟩ := Option.bind_eq_some_iff.1 ht
      have := hroom o' (by rw [Array.getElem?_eq_some_iff] at ho'; obtain ⟨hh, rfl⟩ := ho'; exact Array.mem_toList_iff.2 (Array.getElem_mem hh))
      rw [hd'] at this
      rw [hs]; exact this
    simp only [Region.wanted, hg]
    have hwb : wantedB (envOf a t) want = true ↔ envOf a t = .bool want := by
      unfold wantedB
      cases envOf a t <;> simp
    by_cases hw : envOf a t = .bool want
    · rw [if_pos ((yielded_envOf ht htN want).2 hw)]
      exact .inl (hop (h.1 (hwb.2 hw)))
    · rw [if_neg (fun hh => hw ((yielded_envOf ht htN want).1 hh))]
      exact hk _ _ (h.2 (by rw [← Bool.not_eq_true, hwb]; exact hw))
theorem opT_yields {P : Program} {N : Nat} {all : Array Oper} {o : Oper} {a : Act} {w : World} {K : Value → Prop} (hn : notLC (kOf o) = true) (hs : a.tmps.size = N) (hroom : ∀ o ∈ all.toList, room N o.dst)
    (h : opT P all o (envOf a) w K) : ∃ v, Yields P all o v a ∧ K v := by
  unfold opT at h
  cases hg : o.guard with
  | none =>
    rw [hg] at h
    obtain ⟨v, h1, h2⟩ := take_yields hn h
    exact ⟨v, .inl ⟨by simp [Region.wanted, hg], h1⟩, h2⟩
  | some g =>
    obtain ⟨j, want⟩ := g
    rw [hg] at h
    obtain ⟨t, ht, h⟩ := h
    have htN : t < a.tmps.size := by
      obtain ⟨o', ho', hd'⟩ := Option.bind_eq_some_iff.1 ht
      have := hroom o' (by rw [Array.getElem?_eq_some_iff] at ho'; obtain ⟨hh, rfl⟩ := ho'; exact Array.mem_toList_iff.2 (Array.getElem_mem hh))
      rw [hd'] at this
      rw [hs]; exact this
    have hwb : wantedB (envOf a t) want = true ↔ envOf a t = .bool want := by
      unfold wantedB
      cases envOf a t <;> simp
    by_cases hw : envOf a t = .bool want
    · obtain ⟨v, h1, h2⟩ := take_yields hn (h.1 (hwb.2 hw))
      exact ⟨v, .inl ⟨by simp only [Region.wanted, hg]; exact (yielded_envOf ht htN want).2 hw, h1⟩, h2⟩
    · refine ⟨undef, .inr ⟨?_, rfl⟩, h.2 (by rw [← Bool.not_eq_true, hwb]; exact hw)⟩
      simp only [Region.wanted, hg]
      rw [← Bool.not_eq_true]
      exact fun hh => hw ((yielded_envOf ht htN want).1 hh)
theorem room_at {N : Nat} {ops : Array Oper} {i : Nat} {o : Oper} (hroom : ∀ o ∈ ops.toList, room N o.dst) (hi : ops[i]? = some o) : room N o.dst := by
  rw [Array.getElem?_eq_some_iff] at hi
  obtain ⟨hh, rfl⟩ := hi
  exact hroom _ (Array.mem_toList_iff.2 (Array.getElem_mem hh))
theorem xp_sound {P : Program} {N : Nat} {ops : Array Oper} {K : Env → World → Prop} (ds : List Deferred) (Q2 : Exit → Act → World → Prop)
    (hK : ∀ (a : Act) w, a.defers = ds → a.tmps.size = N → K (envOf a) w → Q2 .normal a w) (hQ : ∀ c a w, ¬ Q2 (.panic c) a w) (hroom : ∀ o ∈ ops.toList, room N o.dst) (hs : Region.noSelect ops = true) :
    ∀ (p : Pl), (∀ (fuel : Nat) (l : Array Bool) (a : Act) (w : World), p.ok .any ops true l = true → p.depth ≤ fuel → a.defers = ds → a.tmps.size = N → XP P ops K p (envOf a) w → wpAny P .any ops Q2 fuel l a w) ∧
      (∀ (fuel : Nat) (l : Array Bool) (a : Act) (w : World), p.ok .any ops false l = true → p.depth ≤ fuel + 1 → a.defers = ds → a.tmps.size = N → XP P ops K p (envOf a) w → ∀ i ∈ p.heads, wpOp P ops Q2 i (wpAny P .any ops Q2 fuel (l.setIfInBounds i true)) a w) := by
  intro p
  induction p with
  | done =>
    refine ⟨fun fuel l a w hok hd hds hsz h => ?_, fun _ _ _ _ hok => by simp [Pl.ok] at hok⟩
    exact wpAny_done (by simpa [Pl.ok] using hok) (hK a w hds hsz h) fuel
  | nil => exact ⟨fun _ _ _ _ hok => by simp [Pl.ok] at hok, fun _ _ _ _ _ _ _ _ _ i hi => by simp [Pl.heads] at hi⟩
  | take i p ih =>
    refine ⟨fun fuel l a w hok hd hds hsz h => ?_, fun _ _ _ _ hok => by simp [Pl.ok] at hok⟩
    obtain ⟨o, hi, h⟩ := h
    simp only [Pl.ok, Bool.and_eq_true, hi, Option.map_some, Option.getD_some] at hok
    obtain ⟨⟨⟨h1, h2⟩, h3⟩, h4⟩ := hok
    obtain ⟨v, hy, hx⟩ := opT_yields h3 hsz hroom h
    simp only [Pl.depth] at hd
    obtain ⟨f, rfl⟩ : ∃ f, fuel = f + 1 := ⟨fuel - 1, by omega⟩
    refine wpAny_take hi hs h1 h2 (fun c a w hh => absurd hh (hQ _ _ _)) hy ?_
    refine ih.1 f _ _ _ h4 (by omega) (by rw [defers_put]; exact hds) (by rw [size_put]; exact hsz) ?_
    rw [put_envOf _ _ _ (by rw [hsz]; exact room_at hroom hi)]
    exact hx
  | alt i p r ihp ihr =>
    have key : ∀ (fuel : Nat) (l : Array Bool) (a : Act) (w : World), p.ok .any ops true (l.setIfInBounds i true) = true → r.ok .any ops false l = true → (Pl.alt i p r).depth ≤ fuel + 1 → a.defers = ds → a.tmps.size = N → XP P ops K (.alt i p r) (envOf a) w → ∀ j ∈ (Pl.alt i p r).heads, wpOp P ops Q2 j (wpAny P .any ops Q2 fuel (l.setIfInBounds j true)) a w := by
      intro fuel l a w h1 h2 hd hds hsz h j hj
      obtain ⟨⟨o, hi, ho⟩, hr⟩ := h
      have hd1 : p.depth + 1 ≤ fuel + 1 := Nat.le_trans (Nat.le_max_left _ _) hd
      have hd2 : r.depth ≤ fuel + 1 := Nat.le_trans (Nat.le_max_right _ _) hd
      rcases List.mem_cons.1 hj with rfl | hj
      · refine opA_sound hi hsz hroom ho (fun v w' hx => ?_) (fun _ _ hh => hh.elim)
        refine ihp.1 fuel _ _ _ h1 (by omega) (by rw [defers_put]; exact hds) (by rw [size_put]; exact hsz) ?_
        rw [put_envOf _ _ _ (by rw [hsz]; exact room_at hroom hi)]
        exact hx
      · exact ihr.2 fuel l a w h2 hd2 hds hsz hr j hj
    refine ⟨fun fuel l a w hok hd hds hsz h => ?_, fun fuel l a w hok hd hds hsz h => ?_⟩
    · simp only [Pl.ok, Bool.and_eq_true, beq_iff_eq] at hok
      obtain ⟨⟨h1, h2⟩, h3⟩ := hok
      have hpos : 0 < fuel := Nat.lt_of_lt_of_le (Nat.succ_pos _) (Nat.le_trans (Nat.le_max_left (p.depth + 1) r.depth) hd)
      obtain ⟨f, rfl⟩ : ∃ f, fuel = f + 1 := ⟨fuel - 1, by omega⟩
      exact wpAny_all h1.symm (by simp [Pl.heads]) (key f l a w h2 h3 hd hds hsz h)
    · simp only [Pl.ok, Bool.and_eq_true] at hok
      exact key fuel l a w hok.1 hok.2 hd hds hsz h
/-- A drawn region, by a plan of its orders. -/
theorem law_plan {P : Program} {N : Nat} {id : Nat} {ops : Array Oper} {Q : Post} {e : Env} {w : World} (p : Pl) (hm : P.follows .mixedOrders = true) (hs : Region.noSelect ops = true) (hp : (p.ok .any ops true (Array.replicate ops.size false) && decide (p.depth ≤ ops.size)) = true)
    (h : XP P ops (fun e w => Q .normal e w) p e w.drew) : Law P N (.region id ops true) Q e w := by
  intro hwf a hsz he
  subst he
  rw [Bool.and_eq_true, decide_eq_true_iff] at hp
  have hroom : ∀ o ∈ ops.toList, room N o.dst := fun o ho => room_of (List.all_eq_true.1 hwf o ho)
  refine wp_mono (Q := fun ex a' w' => ex = .normal ∧ lift N a.defers Q .normal a' w') (wp_region_any hm ?_) ?_
  · exact (xp_sound (N := N) a.defers _ (fun a' w' h1 h2 h3 => ⟨rfl, h1, h2, h3⟩) (fun c a w hh => by cases hh.1) hroom hs p).1 _ _ a _ hp.1 hp.2 rfl hsz h
  · rintro ex a' w' ⟨rfl, hh⟩
    exact hh

/-! ### The rules -/
def TT : World → Prop := fun _ => True
def kPT (P : Program) (all : Array Oper) (K : Env → World → Prop) (p : Pl) (e : Env) (w : World) (d : Option Tmp) : Value → Prop := fun v => XP P all K p (put e d v) w
def kPl (P : Program) (all : Array Oper) (K : Env → World → Prop) (p : Pl) (e : Env) (d : Option Tmp) : Cont := ⟨fun v w' => XP P all K p (put e d v) w', fun _ _ => False⟩
def tkO (P : Program) (all : Array Oper) (K : Env → World → Prop) (p : Pl) (e : Env) (w : World) : Option Oper → Prop
  | some o => opT P all o e w (kPT P all K p e w o.dst)
  | none => False
def atO (P : Program) (all : Array Oper) (K : Env → World → Prop) (p : Pl) (e : Env) (w : World) : Option Oper → Prop
  | some o => opA P all o e w (kPl P all K p e o.dst)
  | none => False
section
variable (P : Program) (all : Array Oper) (K : Env → World → Prop) (p r : Pl) (e : Env) (w : World)
theorem kPT_ (d : Option Tmp) (v : Value) : kPT P all K p e w d v = XP P all K p (put e d v) w := Eq.trans rfl rfl
theorem kPl_K (d : Option Tmp) (v : Value) (w' : World) : (kPl P all K p e d).K v w' = XP P all K p (put e d v) w' := Eq.trans rfl rfl
theorem kPl_Q (d : Option Tmp) (ch : List PanicEntry) (w' : World) : (kPl P all K p e d).Q ch w' = False := Eq.trans rfl rfl
theorem xp_done : XP P all K .done e w = K e w := Eq.trans rfl rfl
theorem xp_nil : XP P all K .nil e w = True := Eq.trans rfl rfl
theorem xp_take (i : Nat) : XP P all K (.take i p) e w = tkO P all K p e w all[i]? := by
  simp only [XP, tkO, kPT]
  cases all[i]? <;> simp <;> rfl
theorem xp_alt (i : Nat) : XP P all K (.alt i p r) e w = (atO P all K p e w all[i]? ∧ XP P all K r e w) := by
  simp only [XP, atO, kPl]
  cases all[i]? <;> simp
theorem tkO_n (d : Option Tmp) (op : Op) (ty : TypeId) (pos : String) (aft : Array Edge) :
    tkO P all K p e w (some ⟨d, op, ty, pos, aft, none⟩) = aq P TT w (kOf ⟨d, op, ty, pos, aft, none⟩) ((aOf ⟨d, op, ty, pos, aft, none⟩).map (ev e)) (kPT P all K p e w d) := Eq.trans rfl rfl
theorem tkO_s (d : Option Tmp) (op : Op) (ty : TypeId) (pos : String) (aft : Array Edge) (j : Nat) (want : Bool) :
    tkO P all K p e w (some ⟨d, op, ty, pos, aft, some (j, want)⟩) = gX ((all[j]?).bind (·.dst)) (kGQ P TT w (kOf ⟨d, op, ty, pos, aft, some (j, want)⟩) ((aOf ⟨d, op, ty, pos, aft, some (j, want)⟩).map (ev e)) e want (kPT P all K p e w d)) := by
  simp only [tkO, opT]
  cases (all[j]?).bind (·.dst) <;> simp [gX] <;> rfl
theorem atO_n (d : Option Tmp) (op : Op) (ty : TypeId) (pos : String) (aft : Array Edge) :
    atO P all K p e w (some ⟨d, op, ty, pos, aft, none⟩) = ap P (kOf ⟨d, op, ty, pos, aft, none⟩) ((aOf ⟨d, op, ty, pos, aft, none⟩).map (ev e)) w (kPl P all K p e d) := Eq.trans rfl rfl
theorem atO_s (d : Option Tmp) (op : Op) (ty : TypeId) (pos : String) (aft : Array Edge) (j : Nat) (want : Bool) :
    atO P all K p e w (some ⟨d, op, ty, pos, aft, some (j, want)⟩) = gX ((all[j]?).bind (·.dst)) (kG P (kOf ⟨d, op, ty, pos, aft, some (j, want)⟩) ((aOf ⟨d, op, ty, pos, aft, some (j, want)⟩).map (ev e)) e want w (kPl P all K p e d)) := by
  simp only [atO, opA]
  cases (all[j]?).bind (·.dst) <;> simp [gX] <;> rfl
end
attribute [push_cast] kPT_ kPl_K kPl_Q xp_done xp_nil xp_take xp_alt tkO_n tkO_s atO_n atO_s
end Go.Sx
/-! The closed facts on types and functions (printed by wip/tools/facts.py). -/
namespace Go.Proofs.YtciepffocobgpaaGreatDoor
open Go Go.Sx

theorem tf0 : (tSz Tryz.prog 1 = some 1) ∧ (ldK Tryz.prog 1 = some none) ∧ (tZero Tryz.prog 1 = some (.nilFunc)) ∧ (isConc Tryz.prog 1 = true) ∧ (tSz Tryz.prog 2 = some 1) ∧ (ldK Tryz.prog 2 = some none) ∧ (tZero Tryz.prog 2 = some (.int .i64 0)) ∧ (tInt Tryz.prog 2 = some .i64) ∧ (isConc Tryz.prog 2 = true) ∧ (tSz Tryz.prog 3 = some 1) ∧ (ldK Tryz.prog 3 = some none) ∧ (tZero Tryz.prog 3 = some (.int .i64 0)) ∧ (tInt Tryz.prog 3 = some .i64) ∧ (isConc Tryz.prog 3 = true) ∧ (tSz Tryz.prog 4 = some 1) ∧ (ldK Tryz.prog 4 = some none) ∧ (tZero Tryz.prog 4 = some (.bool false)) ∧ (isConc Tryz.prog 4 = true) ∧ (tSz Tryz.prog 5 = some 1) ∧ (ldK Tryz.prog 5 = some none) ∧ (tZero Tryz.prog 5 = some (.int .u8 0)) ∧ (tInt Tryz.prog 5 = some .u8) ∧ (isConc Tryz.prog 5 = true) ∧ (tSz Tryz.prog 6 = some 1) ∧ (ldK Tryz.prog 6 = some none) ∧ (tZero Tryz.prog 6 = some (.int .u8 0)) ∧ (tInt Tryz.prog 6 = some .u8) ∧ (isConc Tryz.prog 6 = true) ∧ (tSz Tryz.prog 8 = some 4) ∧ (ldK Tryz.prog 8 = some (some 4)) ∧ (tZero Tryz.prog 8 = some (.agg #[.int .i64 0, .int .i64 0, .bool false, .int .u8 0])) ∧ (isConc Tryz.prog 8 = true) ∧ (fOff Tryz.prog 8 0 = some 0) ∧ (fOff Tryz.prog 8 1 = some 1) ∧ (fOff Tryz.prog 8 2 = some 2) ∧ (fOff Tryz.prog 8 3 = some 3) ∧ (tSz Tryz.prog 9 = some 1) ∧ (ldK Tryz.prog 9 = some none) ∧ (tZero Tryz.prog 9 = some (.string ⟨#[]⟩)) ∧ (isStr Tryz.prog 9 = true) := by
  refine ⟨?_, ?_, ?_, ?_, ?_, ?_, ?_, ?_, ?_, ?_, ?_, ?_, ?_, ?_, ?_, ?_, ?_, ?_, ?_, ?_, ?_, ?_, ?_, ?_, ?_, ?_, ?_, ?_, ?_, ?_, ?_, ?_, ?_, ?_, ?_, ?_, ?_, ?_, ?_, ?_⟩ <;> kernel_rfl
theorem tf1 : (isConc Tryz.prog 9 = true) ∧ (tSz Tryz.prog 10 = some 1) ∧ (ldK Tryz.prog 10 = some none) ∧ (tZero Tryz.prog 10 = some (.string ⟨#[]⟩)) ∧ (isStr Tryz.prog 10 = true) ∧ (isConc Tryz.prog 10 = true) ∧ (tSz Tryz.prog 11 = some 1) ∧ (ldK Tryz.prog 11 = some none) ∧ (tZero Tryz.prog 11 = some (.string ⟨#[]⟩)) ∧ (isStr Tryz.prog 11 = true) ∧ (isConc Tryz.prog 11 = true) ∧ (tSz Tryz.prog 12 = some 1) ∧ (ldK Tryz.prog 12 = some none) ∧ (tZero Tryz.prog 12 = some (.int .u64 0)) ∧ (tInt Tryz.prog 12 = some .u64) ∧ (isConc Tryz.prog 12 = true) ∧ (tSz Tryz.prog 14 = some 2) ∧ (ldK Tryz.prog 14 = some (some 2)) ∧ (tZero Tryz.prog 14 = some (.agg #[.string ⟨#[]⟩, .int .u64 0])) ∧ (isConc Tryz.prog 14 = true) ∧ (fOff Tryz.prog 14 0 = some 0) ∧ (fOff Tryz.prog 14 1 = some 1) ∧ (tSz Tryz.prog 15 = some 1) ∧ (ldK Tryz.prog 15 = some none) ∧ (tZero Tryz.prog 15 = some (.pointer none)) ∧ (isConc Tryz.prog 15 = true) ∧ (tSz Tryz.prog 16 = some 1) ∧ (ldK Tryz.prog 16 = some none) ∧ (tZero Tryz.prog 16 = some (.pointer none)) ∧ (isConc Tryz.prog 16 = true) ∧ (tSz Tryz.prog 17 = some 1) ∧ (ldK Tryz.prog 17 = some none) ∧ (tZero Tryz.prog 17 = some (.pointer none)) ∧ (isConc Tryz.prog 17 = true) ∧ (tSz Tryz.prog 19 = some 1) ∧ (ldK Tryz.prog 19 = some (some 1)) ∧ (tZero Tryz.prog 19 = some (.agg #[.pointer none])) ∧ (isConc Tryz.prog 19 = true) ∧ (fOff Tryz.prog 19 0 = some 0) ∧ (tSz Tryz.prog 20 = some 1) := by
  refine ⟨?_, ?_, ?_, ?_, ?_, ?_, ?_, ?_, ?_, ?_, ?_, ?_, ?_, ?_, ?_, ?_, ?_, ?_, ?_, ?_, ?_, ?_, ?_, ?_, ?_, ?_, ?_, ?_, ?_, ?_, ?_, ?_, ?_, ?_, ?_, ?_, ?_, ?_, ?_, ?_⟩ <;> kernel_rfl
theorem tf2 : (ldK Tryz.prog 20 = some none) ∧ (tZero Tryz.prog 20 = some (.nilIface)) ∧ (tSz Tryz.prog 21 = some 1) ∧ (ldK Tryz.prog 21 = some none) ∧ (tZero Tryz.prog 21 = some (.int .i32 0)) ∧ (tInt Tryz.prog 21 = some .i32) ∧ (isConc Tryz.prog 21 = true) ∧ (tSz Tryz.prog 22 = some 1) ∧ (ldK Tryz.prog 22 = some none) ∧ (tZero Tryz.prog 22 = some (.slice none 0 0)) ∧ (tElem Tryz.prog 22 = some (5, 1)) ∧ (isConc Tryz.prog 22 = true) ∧ (tSz Tryz.prog 23 = some 1) ∧ (ldK Tryz.prog 23 = some none) ∧ (tZero Tryz.prog 23 = some (.nilFunc)) ∧ (isConc Tryz.prog 23 = true) ∧ (tSz Tryz.prog 24 = some 1) ∧ (ldK Tryz.prog 24 = some none) ∧ (tZero Tryz.prog 24 = some (.slice none 0 0)) ∧ (tElem Tryz.prog 24 = some (41, 2)) ∧ (isConc Tryz.prog 24 = true) ∧ (tSz Tryz.prog 25 = some 1) ∧ (ldK Tryz.prog 25 = some none) ∧ (tZero Tryz.prog 25 = some (.slice none 0 0)) ∧ (tElem Tryz.prog 25 = some (38, 2)) ∧ (isConc Tryz.prog 25 = true) ∧ (tSz Tryz.prog 26 = some 5) ∧ (ldK Tryz.prog 26 = some (some 5)) ∧ (tZero Tryz.prog 26 = some (.agg #[.string ⟨#[]⟩, .string ⟨#[]⟩, .slice none 0 0, .slice none 0 0, .slice none 0 0])) ∧ (isConc Tryz.prog 26 = true) ∧ (fOff Tryz.prog 26 0 = some 0) ∧ (fOff Tryz.prog 26 1 = some 1) ∧ (fOff Tryz.prog 26 2 = some 2) ∧ (fOff Tryz.prog 26 3 = some 3) ∧ (fOff Tryz.prog 26 4 = some 4) ∧ (tSz Tryz.prog 27 = some 5) ∧ (ldK Tryz.prog 27 = some (some 5)) ∧ (tZero Tryz.prog 27 = some (.agg #[.string ⟨#[]⟩, .string ⟨#[]⟩, .slice none 0 0, .slice none 0 0, .slice none 0 0])) ∧ (isConc Tryz.prog 27 = true) ∧ (fOff Tryz.prog 27 0 = some 0) := by
  refine ⟨?_, ?_, ?_, ?_, ?_, ?_, ?_, ?_, ?_, ?_, ?_, ?_, ?_, ?_, ?_, ?_, ?_, ?_, ?_, ?_, ?_, ?_, ?_, ?_, ?_, ?_, ?_, ?_, ?_, ?_, ?_, ?_, ?_, ?_, ?_, ?_, ?_, ?_, ?_, ?_⟩ <;> kernel_rfl
theorem tf3 : (fOff Tryz.prog 27 1 = some 1) ∧ (fOff Tryz.prog 27 2 = some 2) ∧ (fOff Tryz.prog 27 3 = some 3) ∧ (fOff Tryz.prog 27 4 = some 4) ∧ (tSz Tryz.prog 28 = some 1) ∧ (ldK Tryz.prog 28 = some none) ∧ (tZero Tryz.prog 28 = some (.int .i64 0)) ∧ (tInt Tryz.prog 28 = some .i64) ∧ (isConc Tryz.prog 28 = true) ∧ (tSz Tryz.prog 30 = some 1) ∧ (ldK Tryz.prog 30 = some none) ∧ (tZero Tryz.prog 30 = some (.nilFunc)) ∧ (isConc Tryz.prog 30 = true) ∧ (tSz Tryz.prog 31 = some 1) ∧ (ldK Tryz.prog 31 = some none) ∧ (tZero Tryz.prog 31 = some (.pointer none)) ∧ (isConc Tryz.prog 31 = true) ∧ (tSz Tryz.prog 32 = some 1) ∧ (ldK Tryz.prog 32 = some none) ∧ (tZero Tryz.prog 32 = some (.nilFunc)) ∧ (isConc Tryz.prog 32 = true) ∧ (tSz Tryz.prog 33 = some 1) ∧ (ldK Tryz.prog 33 = some none) ∧ (tZero Tryz.prog 33 = some (.slice none 0 0)) ∧ (tElem Tryz.prog 33 = some (42, 2)) ∧ (isConc Tryz.prog 33 = true) ∧ (tSz Tryz.prog 34 = some 1) ∧ (ldK Tryz.prog 34 = some none) ∧ (tZero Tryz.prog 34 = some (.slice none 0 0)) ∧ (tElem Tryz.prog 34 = some (9, 1)) ∧ (isConc Tryz.prog 34 = true) ∧ (tSz Tryz.prog 35 = some 8) ∧ (ldK Tryz.prog 35 = some (some 8)) ∧ (tZero Tryz.prog 35 = some (.agg #[.string ⟨#[]⟩, .string ⟨#[]⟩, .slice none 0 0, .slice none 0 0, .slice none 0 0, .string ⟨#[]⟩, .int .i64 0, .string ⟨#[]⟩])) ∧ (isConc Tryz.prog 35 = true) ∧ (fOff Tryz.prog 35 0 = some 0) ∧ (fOff Tryz.prog 35 1 = some 1) ∧ (fOff Tryz.prog 35 2 = some 2) ∧ (fOff Tryz.prog 35 3 = some 3) ∧ (fOff Tryz.prog 35 4 = some 4) := by
  refine ⟨?_, ?_, ?_, ?_, ?_, ?_, ?_, ?_, ?_, ?_, ?_, ?_, ?_, ?_, ?_, ?_, ?_, ?_, ?_, ?_, ?_, ?_, ?_, ?_, ?_, ?_, ?_, ?_, ?_, ?_, ?_, ?_, ?_, ?_, ?_, ?_, ?_, ?_, ?_, ?_⟩ <;> kernel_rfl
theorem tf4 : (fOff Tryz.prog 35 5 = some 5) ∧ (fOff Tryz.prog 35 6 = some 6) ∧ (fOff Tryz.prog 35 7 = some 7) ∧ (tSz Tryz.prog 36 = some 8) ∧ (ldK Tryz.prog 36 = some (some 8)) ∧ (tZero Tryz.prog 36 = some (.agg #[.string ⟨#[]⟩, .string ⟨#[]⟩, .slice none 0 0, .slice none 0 0, .slice none 0 0, .string ⟨#[]⟩, .int .i64 0, .string ⟨#[]⟩])) ∧ (isConc Tryz.prog 36 = true) ∧ (fOff Tryz.prog 36 0 = some 0) ∧ (fOff Tryz.prog 36 1 = some 1) ∧ (fOff Tryz.prog 36 2 = some 2) ∧ (fOff Tryz.prog 36 3 = some 3) ∧ (fOff Tryz.prog 36 4 = some 4) ∧ (fOff Tryz.prog 36 5 = some 5) ∧ (fOff Tryz.prog 36 6 = some 6) ∧ (fOff Tryz.prog 36 7 = some 7) ∧ (tSz Tryz.prog 38 = some 2) ∧ (ldK Tryz.prog 38 = some (some 2)) ∧ (tZero Tryz.prog 38 = some (.agg #[.string ⟨#[]⟩, .string ⟨#[]⟩])) ∧ (isConc Tryz.prog 38 = true) ∧ (fOff Tryz.prog 38 0 = some 0) ∧ (fOff Tryz.prog 38 1 = some 1) ∧ (tSz Tryz.prog 40 = some 1) ∧ (ldK Tryz.prog 40 = some none) ∧ (tZero Tryz.prog 40 = some (.nilFunc)) ∧ (isConc Tryz.prog 40 = true) ∧ (tSz Tryz.prog 41 = some 2) ∧ (ldK Tryz.prog 41 = some (some 2)) ∧ (tZero Tryz.prog 41 = some (.agg #[.string ⟨#[]⟩, .string ⟨#[]⟩])) ∧ (isConc Tryz.prog 41 = true) ∧ (fOff Tryz.prog 41 0 = some 0) ∧ (fOff Tryz.prog 41 1 = some 1) ∧ (tSz Tryz.prog 42 = some 2) ∧ (ldK Tryz.prog 42 = some (some 2)) ∧ (tZero Tryz.prog 42 = some (.agg #[.string ⟨#[]⟩, .string ⟨#[]⟩])) ∧ (isConc Tryz.prog 42 = true) ∧ (fOff Tryz.prog 42 0 = some 0) ∧ (fOff Tryz.prog 42 1 = some 1) ∧ (tSz Tryz.prog 43 = some 1) ∧ (ldK Tryz.prog 43 = some none) ∧ (tZero Tryz.prog 43 = some (.nilFunc)) := by
  refine ⟨?_, ?_, ?_, ?_, ?_, ?_, ?_, ?_, ?_, ?_, ?_, ?_, ?_, ?_, ?_, ?_, ?_, ?_, ?_, ?_, ?_, ?_, ?_, ?_, ?_, ?_, ?_, ?_, ?_, ?_, ?_, ?_, ?_, ?_, ?_, ?_, ?_, ?_, ?_, ?_⟩ <;> kernel_rfl
theorem tf5 : (isConc Tryz.prog 43 = true) ∧ (tSz Tryz.prog 45 = some 2) ∧ (ldK Tryz.prog 45 = some (some 2)) ∧ (tZero Tryz.prog 45 = some (.agg #[.int .i64 0, .slice none 0 0])) ∧ (isConc Tryz.prog 45 = true) ∧ (fOff Tryz.prog 45 0 = some 0) ∧ (fOff Tryz.prog 45 1 = some 1) ∧ (tSz Tryz.prog 47 = some 1) ∧ (ldK Tryz.prog 47 = some none) ∧ (tZero Tryz.prog 47 = some (.nilFunc)) ∧ (isConc Tryz.prog 47 = true) ∧ (tSz Tryz.prog 49 = some 1) ∧ (ldK Tryz.prog 49 = some none) ∧ (tZero Tryz.prog 49 = some (.nilFunc)) ∧ (isConc Tryz.prog 49 = true) ∧ (tSz Tryz.prog 50 = some 1) ∧ (ldK Tryz.prog 50 = some none) ∧ (tZero Tryz.prog 50 = some (.slice none 0 0)) ∧ (tElem Tryz.prog 50 = some (3, 1)) ∧ (isConc Tryz.prog 50 = true) ∧ (tSz Tryz.prog 52 = some 1) ∧ (ldK Tryz.prog 52 = some none) ∧ (tZero Tryz.prog 52 = some (.nilFunc)) ∧ (isConc Tryz.prog 52 = true) ∧ (tSz Tryz.prog 53 = some 1) ∧ (ldK Tryz.prog 53 = some none) ∧ (tZero Tryz.prog 53 = some (.nilFunc)) ∧ (isConc Tryz.prog 53 = true) ∧ (tSz Tryz.prog 54 = some 1) ∧ (ldK Tryz.prog 54 = some none) ∧ (tZero Tryz.prog 54 = some (.nilFunc)) ∧ (isConc Tryz.prog 54 = true) ∧ (tSz Tryz.prog 55 = some 1) ∧ (ldK Tryz.prog 55 = some none) ∧ (tZero Tryz.prog 55 = some (.nilFunc)) ∧ (isConc Tryz.prog 55 = true) ∧ (tSz Tryz.prog 56 = some 1) ∧ (ldK Tryz.prog 56 = some none) ∧ (tZero Tryz.prog 56 = some (.nilFunc)) ∧ (isConc Tryz.prog 56 = true) := by
  refine ⟨?_, ?_, ?_, ?_, ?_, ?_, ?_, ?_, ?_, ?_, ?_, ?_, ?_, ?_, ?_, ?_, ?_, ?_, ?_, ?_, ?_, ?_, ?_, ?_, ?_, ?_, ?_, ?_, ?_, ?_, ?_, ?_, ?_, ?_, ?_, ?_, ?_, ?_, ?_, ?_⟩ <;> kernel_rfl
theorem tf6 : (tSz Tryz.prog 57 = some 1) ∧ (ldK Tryz.prog 57 = some none) ∧ (tZero Tryz.prog 57 = some (.nilFunc)) ∧ (isConc Tryz.prog 57 = true) ∧ (tSz Tryz.prog 59 = some 1) ∧ (ldK Tryz.prog 59 = some none) ∧ (tZero Tryz.prog 59 = some (.nilFunc)) ∧ (isConc Tryz.prog 59 = true) ∧ (tSz Tryz.prog 60 = some 1) ∧ (ldK Tryz.prog 60 = some none) ∧ (tZero Tryz.prog 60 = some (.nilFunc)) ∧ (isConc Tryz.prog 60 = true) ∧ (tSz Tryz.prog 61 = some 1) ∧ (ldK Tryz.prog 61 = some none) ∧ (tZero Tryz.prog 61 = some (.nilFunc)) ∧ (isConc Tryz.prog 61 = true) ∧ (tSz Tryz.prog 62 = some 1) ∧ (ldK Tryz.prog 62 = some none) ∧ (tZero Tryz.prog 62 = some (.nilFunc)) ∧ (isConc Tryz.prog 62 = true) ∧ (tSz Tryz.prog 63 = some 1) ∧ (ldK Tryz.prog 63 = some none) ∧ (tZero Tryz.prog 63 = some (.nilFunc)) ∧ (isConc Tryz.prog 63 = true) ∧ (tSz Tryz.prog 64 = some 1) ∧ (ldK Tryz.prog 64 = some none) ∧ (tZero Tryz.prog 64 = some (.nilFunc)) ∧ (isConc Tryz.prog 64 = true) ∧ (tSz Tryz.prog 65 = some 1) ∧ (ldK Tryz.prog 65 = some none) ∧ (tZero Tryz.prog 65 = some (.nilFunc)) ∧ (isConc Tryz.prog 65 = true) ∧ (tSz Tryz.prog 66 = some 1) ∧ (ldK Tryz.prog 66 = some none) ∧ (tZero Tryz.prog 66 = some (.nilFunc)) ∧ (isConc Tryz.prog 66 = true) ∧ (tSz Tryz.prog 67 = some 1) ∧ (ldK Tryz.prog 67 = some none) ∧ (tZero Tryz.prog 67 = some (.nilFunc)) ∧ (isConc Tryz.prog 67 = true) := by
  refine ⟨?_, ?_, ?_, ?_, ?_, ?_, ?_, ?_, ?_, ?_, ?_, ?_, ?_, ?_, ?_, ?_, ?_, ?_, ?_, ?_, ?_, ?_, ?_, ?_, ?_, ?_, ?_, ?_, ?_, ?_, ?_, ?_, ?_, ?_, ?_, ?_, ?_, ?_, ?_, ?_⟩ <;> kernel_rfl
theorem tf7 : (tSz Tryz.prog 68 = some 1) ∧ (ldK Tryz.prog 68 = some none) ∧ (tZero Tryz.prog 68 = some (.nilFunc)) ∧ (isConc Tryz.prog 68 = true) ∧ (tSz Tryz.prog 69 = some 1) ∧ (ldK Tryz.prog 69 = some none) ∧ (tZero Tryz.prog 69 = some (.nilFunc)) ∧ (isConc Tryz.prog 69 = true) ∧ (tSz Tryz.prog 70 = some 1) ∧ (ldK Tryz.prog 70 = some none) ∧ (tZero Tryz.prog 70 = some (.nilFunc)) ∧ (isConc Tryz.prog 70 = true) ∧ (tSz Tryz.prog 71 = some 1) ∧ (ldK Tryz.prog 71 = some none) ∧ (tZero Tryz.prog 71 = some (.nilFunc)) ∧ (isConc Tryz.prog 71 = true) ∧ (tSz Tryz.prog 72 = some 1) ∧ (ldK Tryz.prog 72 = some none) ∧ (tZero Tryz.prog 72 = some (.nilFunc)) ∧ (isConc Tryz.prog 72 = true) ∧ (tSz Tryz.prog 73 = some 1) ∧ (ldK Tryz.prog 73 = some none) ∧ (tZero Tryz.prog 73 = some (.nilFunc)) ∧ (isConc Tryz.prog 73 = true) ∧ (tSz Tryz.prog 74 = some 1) ∧ (ldK Tryz.prog 74 = some none) ∧ (tZero Tryz.prog 74 = some (.nilFunc)) ∧ (isConc Tryz.prog 74 = true) ∧ (tSz Tryz.prog 75 = some 1) ∧ (ldK Tryz.prog 75 = some none) ∧ (tZero Tryz.prog 75 = some (.nilFunc)) ∧ (isConc Tryz.prog 75 = true) ∧ (tSz Tryz.prog 76 = some 1) ∧ (ldK Tryz.prog 76 = some none) ∧ (tZero Tryz.prog 76 = some (.nilFunc)) ∧ (isConc Tryz.prog 76 = true) ∧ (tSz Tryz.prog 78 = some 1) ∧ (ldK Tryz.prog 78 = some none) ∧ (tZero Tryz.prog 78 = some (.nilFunc)) ∧ (isConc Tryz.prog 78 = true) := by
  refine ⟨?_, ?_, ?_, ?_, ?_, ?_, ?_, ?_, ?_, ?_, ?_, ?_, ?_, ?_, ?_, ?_, ?_, ?_, ?_, ?_, ?_, ?_, ?_, ?_, ?_, ?_, ?_, ?_, ?_, ?_, ?_, ?_, ?_, ?_, ?_, ?_, ?_, ?_, ?_, ?_⟩ <;> kernel_rfl
theorem tf8 : (tSz Tryz.prog 79 = some 1) ∧ (ldK Tryz.prog 79 = some none) ∧ (tZero Tryz.prog 79 = some (.nilFunc)) ∧ (isConc Tryz.prog 79 = true) ∧ (tSz Tryz.prog 80 = some 1) ∧ (ldK Tryz.prog 80 = some none) ∧ (tZero Tryz.prog 80 = some (.nilFunc)) ∧ (isConc Tryz.prog 80 = true) ∧ (tSz Tryz.prog 81 = some 1) ∧ (ldK Tryz.prog 81 = some none) ∧ (tZero Tryz.prog 81 = some (.nilFunc)) ∧ (isConc Tryz.prog 81 = true) ∧ (tSz Tryz.prog 82 = some 1) ∧ (ldK Tryz.prog 82 = some (some 1)) ∧ (tZero Tryz.prog 82 = some (.agg #[.int .i64 0])) ∧ (isConc Tryz.prog 82 = true) ∧ (fOff Tryz.prog 82 0 = some 0) ∧ (tSz Tryz.prog 83 = some 1) ∧ (ldK Tryz.prog 83 = some (some 1)) ∧ (tZero Tryz.prog 83 = some (.agg #[.int .i64 0])) ∧ (isConc Tryz.prog 83 = true) ∧ (fOff Tryz.prog 83 0 = some 0) ∧ (tSz Tryz.prog 84 = some 1) ∧ (ldK Tryz.prog 84 = some none) ∧ (tZero Tryz.prog 84 = some (.nilFunc)) ∧ (isConc Tryz.prog 84 = true) ∧ (tSz Tryz.prog 86 = some 1) ∧ (ldK Tryz.prog 86 = some none) ∧ (tZero Tryz.prog 86 = some (.nilFunc)) ∧ (isConc Tryz.prog 86 = true) ∧ (tSz Tryz.prog 88 = some 1) ∧ (ldK Tryz.prog 88 = some none) ∧ (tZero Tryz.prog 88 = some (.nilFunc)) ∧ (isConc Tryz.prog 88 = true) ∧ (tSz Tryz.prog 89 = some 1) ∧ (ldK Tryz.prog 89 = some none) ∧ (tZero Tryz.prog 89 = some (.nilFunc)) ∧ (isConc Tryz.prog 89 = true) ∧ (tSz Tryz.prog 90 = some 1) ∧ (ldK Tryz.prog 90 = some none) := by
  refine ⟨?_, ?_, ?_, ?_, ?_, ?_, ?_, ?_, ?_, ?_, ?_, ?_, ?_, ?_, ?_, ?_, ?_, ?_, ?_, ?_, ?_, ?_, ?_, ?_, ?_, ?_, ?_, ?_, ?_, ?_, ?_, ?_, ?_, ?_, ?_, ?_, ?_, ?_, ?_, ?_⟩ <;> kernel_rfl
theorem tf9 : (tZero Tryz.prog 90 = some (.nilFunc)) ∧ (isConc Tryz.prog 90 = true) ∧ (tSz Tryz.prog 91 = some 1) ∧ (ldK Tryz.prog 91 = some none) ∧ (tZero Tryz.prog 91 = some (.nilFunc)) ∧ (isConc Tryz.prog 91 = true) ∧ (tSz Tryz.prog 93 = some 1) ∧ (ldK Tryz.prog 93 = some none) ∧ (tZero Tryz.prog 93 = some (.nilFunc)) ∧ (isConc Tryz.prog 93 = true) ∧ (tSz Tryz.prog 94 = some 1) ∧ (ldK Tryz.prog 94 = some none) ∧ (tZero Tryz.prog 94 = some (.nilFunc)) ∧ (isConc Tryz.prog 94 = true) ∧ (tSz Tryz.prog 95 = some 1) ∧ (ldK Tryz.prog 95 = some none) ∧ (tZero Tryz.prog 95 = some (.nilFunc)) ∧ (isConc Tryz.prog 95 = true) ∧ (tSz Tryz.prog 96 = some 1) ∧ (ldK Tryz.prog 96 = some none) ∧ (tZero Tryz.prog 96 = some (.nilFunc)) ∧ (isConc Tryz.prog 96 = true) ∧ (tSz Tryz.prog 97 = some 1) ∧ (ldK Tryz.prog 97 = some none) ∧ (tZero Tryz.prog 97 = some (.nilFunc)) ∧ (isConc Tryz.prog 97 = true) ∧ (tSz Tryz.prog 98 = some 1) ∧ (ldK Tryz.prog 98 = some none) ∧ (tZero Tryz.prog 98 = some (.nilFunc)) ∧ (isConc Tryz.prog 98 = true) ∧ (tSz Tryz.prog 99 = some 1) ∧ (ldK Tryz.prog 99 = some none) ∧ (tZero Tryz.prog 99 = some (.nilIface)) ∧ (tSz Tryz.prog 100 = some 1) ∧ (ldK Tryz.prog 100 = some none) ∧ (tZero Tryz.prog 100 = some (.nilIface)) ∧ (tSz Tryz.prog 102 = some 1) ∧ (ldK Tryz.prog 102 = some none) ∧ (tZero Tryz.prog 102 = some (.nilFunc)) ∧ (isConc Tryz.prog 102 = true) := by
  refine ⟨?_, ?_, ?_, ?_, ?_, ?_, ?_, ?_, ?_, ?_, ?_, ?_, ?_, ?_, ?_, ?_, ?_, ?_, ?_, ?_, ?_, ?_, ?_, ?_, ?_, ?_, ?_, ?_, ?_, ?_, ?_, ?_, ?_, ?_, ?_, ?_, ?_, ?_, ?_, ?_⟩ <;> kernel_rfl
theorem tf10 : (tSz Tryz.prog 103 = some 1) ∧ (ldK Tryz.prog 103 = some none) ∧ (tZero Tryz.prog 103 = some (.pointer none)) ∧ (isConc Tryz.prog 103 = true) ∧ (tSz Tryz.prog 105 = some 2) ∧ (ldK Tryz.prog 105 = some (some 2)) ∧ (tZero Tryz.prog 105 = some (.agg #[.pointer none, .slice none 0 0])) ∧ (isConc Tryz.prog 105 = true) ∧ (fOff Tryz.prog 105 0 = some 0) ∧ (fOff Tryz.prog 105 1 = some 1) ∧ (tSz Tryz.prog 106 = some 1) ∧ (ldK Tryz.prog 106 = some none) ∧ (tZero Tryz.prog 106 = some (.nilFunc)) ∧ (isConc Tryz.prog 106 = true) ∧ (tSz Tryz.prog 107 = some 1) ∧ (ldK Tryz.prog 107 = some none) ∧ (tZero Tryz.prog 107 = some (.nilFunc)) ∧ (isConc Tryz.prog 107 = true) ∧ (tSz Tryz.prog 108 = some 1) ∧ (ldK Tryz.prog 108 = some none) ∧ (tZero Tryz.prog 108 = some (.nilFunc)) ∧ (isConc Tryz.prog 108 = true) ∧ (tSz Tryz.prog 109 = some 1) ∧ (ldK Tryz.prog 109 = some none) ∧ (tZero Tryz.prog 109 = some (.nilFunc)) ∧ (isConc Tryz.prog 109 = true) ∧ (tSz Tryz.prog 110 = some 1) ∧ (ldK Tryz.prog 110 = some none) ∧ (tZero Tryz.prog 110 = some (.nilFunc)) ∧ (isConc Tryz.prog 110 = true) ∧ (tSz Tryz.prog 111 = some 1) ∧ (ldK Tryz.prog 111 = some none) ∧ (tZero Tryz.prog 111 = some (.nilFunc)) ∧ (isConc Tryz.prog 111 = true) ∧ (tSz Tryz.prog 112 = some 2) ∧ (ldK Tryz.prog 112 = some (some 2)) ∧ (tZero Tryz.prog 112 = some (.agg #[.int .i64 0, .int .i64 0])) ∧ (isConc Tryz.prog 112 = true) ∧ (fOff Tryz.prog 112 0 = some 0) ∧ (fOff Tryz.prog 112 1 = some 1) := by
  refine ⟨?_, ?_, ?_, ?_, ?_, ?_, ?_, ?_, ?_, ?_, ?_, ?_, ?_, ?_, ?_, ?_, ?_, ?_, ?_, ?_, ?_, ?_, ?_, ?_, ?_, ?_, ?_, ?_, ?_, ?_, ?_, ?_, ?_, ?_, ?_, ?_, ?_, ?_, ?_, ?_⟩ <;> kernel_rfl
theorem tf11 : (tSz Tryz.prog 113 = some 2) ∧ (ldK Tryz.prog 113 = some (some 2)) ∧ (tZero Tryz.prog 113 = some (.agg #[.int .i64 0, .int .i64 0])) ∧ (isConc Tryz.prog 113 = true) ∧ (fOff Tryz.prog 113 0 = some 0) ∧ (fOff Tryz.prog 113 1 = some 1) ∧ (tSz Tryz.prog 114 = some 1) ∧ (ldK Tryz.prog 114 = some none) ∧ (tZero Tryz.prog 114 = some (.nilFunc)) ∧ (isConc Tryz.prog 114 = true) ∧ (tSz Tryz.prog 115 = some 1) ∧ (ldK Tryz.prog 115 = some none) ∧ (tZero Tryz.prog 115 = some (.nilFunc)) ∧ (isConc Tryz.prog 115 = true) ∧ (tSz Tryz.prog 117 = some 1) ∧ (ldK Tryz.prog 117 = some none) ∧ (tZero Tryz.prog 117 = some (.nilFunc)) ∧ (isConc Tryz.prog 117 = true) ∧ (tSz Tryz.prog 118 = some 1) ∧ (ldK Tryz.prog 118 = some none) ∧ (tZero Tryz.prog 118 = some (.nilFunc)) ∧ (isConc Tryz.prog 118 = true) ∧ (tSz Tryz.prog 119 = some 1) ∧ (ldK Tryz.prog 119 = some none) ∧ (tZero Tryz.prog 119 = some (.nilFunc)) ∧ (isConc Tryz.prog 119 = true) ∧ (tSz Tryz.prog 120 = some 1) ∧ (ldK Tryz.prog 120 = some none) ∧ (tZero Tryz.prog 120 = some (.nilFunc)) ∧ (isConc Tryz.prog 120 = true) ∧ (tSz Tryz.prog 124 = some 1) ∧ (ldK Tryz.prog 124 = some none) ∧ (tZero Tryz.prog 124 = some (.nilFunc)) ∧ (isConc Tryz.prog 124 = true) ∧ (tSz Tryz.prog 125 = some 1) ∧ (ldK Tryz.prog 125 = some none) ∧ (tZero Tryz.prog 125 = some (.nilFunc)) ∧ (isConc Tryz.prog 125 = true) ∧ (tSz Tryz.prog 126 = some 1) ∧ (ldK Tryz.prog 126 = some none) := by
  refine ⟨?_, ?_, ?_, ?_, ?_, ?_, ?_, ?_, ?_, ?_, ?_, ?_, ?_, ?_, ?_, ?_, ?_, ?_, ?_, ?_, ?_, ?_, ?_, ?_, ?_, ?_, ?_, ?_, ?_, ?_, ?_, ?_, ?_, ?_, ?_, ?_, ?_, ?_, ?_, ?_⟩ <;> kernel_rfl
theorem tf12 : (tZero Tryz.prog 126 = some (.pointer none)) ∧ (isConc Tryz.prog 126 = true) ∧ (tSz Tryz.prog 127 = some 1) ∧ (ldK Tryz.prog 127 = some none) ∧ (tZero Tryz.prog 127 = some (.pointer none)) ∧ (isConc Tryz.prog 127 = true) ∧ (tSz Tryz.prog 128 = some 1) ∧ (ldK Tryz.prog 128 = some none) ∧ (tZero Tryz.prog 128 = some (.nilFunc)) ∧ (isConc Tryz.prog 128 = true) ∧ (tSz Tryz.prog 129 = some 1) ∧ (ldK Tryz.prog 129 = some none) ∧ (tZero Tryz.prog 129 = some (.nilFunc)) ∧ (isConc Tryz.prog 129 = true) ∧ (tSz Tryz.prog 130 = some 1) ∧ (ldK Tryz.prog 130 = some none) ∧ (tZero Tryz.prog 130 = some (.nilFunc)) ∧ (isConc Tryz.prog 130 = true) ∧ (tSz Tryz.prog 132 = some 1) ∧ (ldK Tryz.prog 132 = some none) ∧ (tZero Tryz.prog 132 = some (.nilFunc)) ∧ (isConc Tryz.prog 132 = true) ∧ (tSz Tryz.prog 133 = some 1) ∧ (ldK Tryz.prog 133 = some none) ∧ (tZero Tryz.prog 133 = some (.nilFunc)) ∧ (isConc Tryz.prog 133 = true) ∧ (tSz Tryz.prog 134 = some 1) ∧ (ldK Tryz.prog 134 = some none) ∧ (tZero Tryz.prog 134 = some (.nilFunc)) ∧ (isConc Tryz.prog 134 = true) ∧ (tSz Tryz.prog 135 = some 1) ∧ (ldK Tryz.prog 135 = some none) ∧ (tZero Tryz.prog 135 = some (.nilFunc)) ∧ (isConc Tryz.prog 135 = true) ∧ (tSz Tryz.prog 136 = some 1) ∧ (ldK Tryz.prog 136 = some none) ∧ (tZero Tryz.prog 136 = some (.nilFunc)) ∧ (isConc Tryz.prog 136 = true) ∧ (tSz Tryz.prog 137 = some 1) ∧ (ldK Tryz.prog 137 = some none) := by
  refine ⟨?_, ?_, ?_, ?_, ?_, ?_, ?_, ?_, ?_, ?_, ?_, ?_, ?_, ?_, ?_, ?_, ?_, ?_, ?_, ?_, ?_, ?_, ?_, ?_, ?_, ?_, ?_, ?_, ?_, ?_, ?_, ?_, ?_, ?_, ?_, ?_, ?_, ?_, ?_, ?_⟩ <;> kernel_rfl
theorem tf13 : (tZero Tryz.prog 137 = some (.pointer none)) ∧ (isConc Tryz.prog 137 = true) ∧ (tSz Tryz.prog 138 = some 1) ∧ (ldK Tryz.prog 138 = some none) ∧ (tZero Tryz.prog 138 = some (.int .u64 0)) ∧ (tInt Tryz.prog 138 = some .u64) ∧ (isConc Tryz.prog 138 = true) ∧ (tSz Tryz.prog 139 = some 1) ∧ (ldK Tryz.prog 139 = some none) ∧ (tZero Tryz.prog 139 = some (.slice none 0 0)) ∧ (tElem Tryz.prog 139 = some (143, 2)) ∧ (isConc Tryz.prog 139 = true) ∧ (tSz Tryz.prog 141 = some 1) ∧ (ldK Tryz.prog 141 = some none) ∧ (tZero Tryz.prog 141 = some (.nilFunc)) ∧ (isConc Tryz.prog 141 = true) ∧ (tSz Tryz.prog 142 = some 2) ∧ (ldK Tryz.prog 142 = some (some 2)) ∧ (tZero Tryz.prog 142 = some (.agg #[.int .u8 0, .int .u8 0])) ∧ (isConc Tryz.prog 142 = true) ∧ (fOff Tryz.prog 142 0 = some 0) ∧ (fOff Tryz.prog 142 1 = some 1) ∧ (tSz Tryz.prog 143 = some 2) ∧ (ldK Tryz.prog 143 = some (some 2)) ∧ (tZero Tryz.prog 143 = some (.agg #[.int .u8 0, .int .u8 0])) ∧ (isConc Tryz.prog 143 = true) ∧ (fOff Tryz.prog 143 0 = some 0) ∧ (fOff Tryz.prog 143 1 = some 1) ∧ (tSz Tryz.prog 144 = some 1) ∧ (ldK Tryz.prog 144 = some none) ∧ (tZero Tryz.prog 144 = some (.nilFunc)) ∧ (isConc Tryz.prog 144 = true) ∧ (tSz Tryz.prog 145 = some 1) ∧ (ldK Tryz.prog 145 = some none) ∧ (tZero Tryz.prog 145 = some (.pointer none)) ∧ (isConc Tryz.prog 145 = true) ∧ (tSz Tryz.prog 147 = some 1) ∧ (ldK Tryz.prog 147 = some none) ∧ (tZero Tryz.prog 147 = some (.nilFunc)) ∧ (isConc Tryz.prog 147 = true) := by
  refine ⟨?_, ?_, ?_, ?_, ?_, ?_, ?_, ?_, ?_, ?_, ?_, ?_, ?_, ?_, ?_, ?_, ?_, ?_, ?_, ?_, ?_, ?_, ?_, ?_, ?_, ?_, ?_, ?_, ?_, ?_, ?_, ?_, ?_, ?_, ?_, ?_, ?_, ?_, ?_, ?_⟩ <;> kernel_rfl
theorem tf14 : (tSz Tryz.prog 148 = some 1) ∧ (ldK Tryz.prog 148 = some none) ∧ (tZero Tryz.prog 148 = some (.nilFunc)) ∧ (isConc Tryz.prog 148 = true) ∧ (tSz Tryz.prog 149 = some 1) ∧ (ldK Tryz.prog 149 = some none) ∧ (tZero Tryz.prog 149 = some (.nilFunc)) ∧ (isConc Tryz.prog 149 = true) ∧ (tSz Tryz.prog 151 = some 1) ∧ (ldK Tryz.prog 151 = some none) ∧ (tZero Tryz.prog 151 = some (.nilFunc)) ∧ (isConc Tryz.prog 151 = true) ∧ (tSz Tryz.prog 152 = some 1) ∧ (ldK Tryz.prog 152 = some none) ∧ (tZero Tryz.prog 152 = some (.nilFunc)) ∧ (isConc Tryz.prog 152 = true) ∧ (tSz Tryz.prog 153 = some 1) ∧ (ldK Tryz.prog 153 = some none) ∧ (tZero Tryz.prog 153 = some (.nilFunc)) ∧ (isConc Tryz.prog 153 = true) ∧ (tSz Tryz.prog 155 = some 1) ∧ (ldK Tryz.prog 155 = some none) ∧ (tZero Tryz.prog 155 = some (.nilFunc)) ∧ (isConc Tryz.prog 155 = true) ∧ (tSz Tryz.prog 157 = some 1) ∧ (ldK Tryz.prog 157 = some none) ∧ (tZero Tryz.prog 157 = some (.nilFunc)) ∧ (isConc Tryz.prog 157 = true) ∧ (tSz Tryz.prog 158 = some 1) ∧ (ldK Tryz.prog 158 = some none) ∧ (tZero Tryz.prog 158 = some (.nilFunc)) ∧ (isConc Tryz.prog 158 = true) ∧ (tSz Tryz.prog 159 = some 1) ∧ (ldK Tryz.prog 159 = some none) ∧ (tZero Tryz.prog 159 = some (.int .i64 0)) ∧ (tInt Tryz.prog 159 = some .i64) ∧ (isConc Tryz.prog 159 = true) ∧ (tSz Tryz.prog 161 = some 1) ∧ (ldK Tryz.prog 161 = some none) ∧ (tZero Tryz.prog 161 = some (.nilFunc)) := by
  refine ⟨?_, ?_, ?_, ?_, ?_, ?_, ?_, ?_, ?_, ?_, ?_, ?_, ?_, ?_, ?_, ?_, ?_, ?_, ?_, ?_, ?_, ?_, ?_, ?_, ?_, ?_, ?_, ?_, ?_, ?_, ?_, ?_, ?_, ?_, ?_, ?_, ?_, ?_, ?_, ?_⟩ <;> kernel_rfl
theorem tf15 : (isConc Tryz.prog 161 = true) ∧ (tSz Tryz.prog 162 = some 1) ∧ (ldK Tryz.prog 162 = some none) ∧ (tZero Tryz.prog 162 = some (.pointer none)) ∧ (isConc Tryz.prog 162 = true) ∧ (tSz Tryz.prog 163 = some 1) ∧ (ldK Tryz.prog 163 = some none) ∧ (tZero Tryz.prog 163 = some (.nilFunc)) ∧ (isConc Tryz.prog 163 = true) ∧ (tSz Tryz.prog 164 = some 1) ∧ (ldK Tryz.prog 164 = some none) ∧ (tZero Tryz.prog 164 = some (.nilFunc)) ∧ (isConc Tryz.prog 164 = true) ∧ (tSz Tryz.prog 166 = some 1) ∧ (ldK Tryz.prog 166 = some none) ∧ (tZero Tryz.prog 166 = some (.int .u64 0)) ∧ (tInt Tryz.prog 166 = some .u64) ∧ (isConc Tryz.prog 166 = true) ∧ (tSz Tryz.prog 167 = some 1) ∧ (ldK Tryz.prog 167 = some none) ∧ (tZero Tryz.prog 167 = some (.nilFunc)) ∧ (isConc Tryz.prog 167 = true) ∧ (tSz Tryz.prog 168 = some 1) ∧ (ldK Tryz.prog 168 = some none) ∧ (tZero Tryz.prog 168 = some (.nilFunc)) ∧ (isConc Tryz.prog 168 = true) ∧ (tSz Tryz.prog 170 = some 1) ∧ (ldK Tryz.prog 170 = some none) ∧ (tZero Tryz.prog 170 = some (.nilFunc)) ∧ (isConc Tryz.prog 170 = true) ∧ (tSz Tryz.prog 172 = some 1) ∧ (ldK Tryz.prog 172 = some none) ∧ (tZero Tryz.prog 172 = some (.nilFunc)) ∧ (isConc Tryz.prog 172 = true) ∧ (tSz Tryz.prog 173 = some 1) ∧ (ldK Tryz.prog 173 = some none) ∧ (tZero Tryz.prog 173 = some (.nilFunc)) ∧ (isConc Tryz.prog 173 = true) ∧ (tSz Tryz.prog 174 = some 1) ∧ (ldK Tryz.prog 174 = some none) := by
  refine ⟨?_, ?_, ?_, ?_, ?_, ?_, ?_, ?_, ?_, ?_, ?_, ?_, ?_, ?_, ?_, ?_, ?_, ?_, ?_, ?_, ?_, ?_, ?_, ?_, ?_, ?_, ?_, ?_, ?_, ?_, ?_, ?_, ?_, ?_, ?_, ?_, ?_, ?_, ?_, ?_⟩ <;> kernel_rfl
theorem tf16 : (tZero Tryz.prog 174 = some (.int .u32 0)) ∧ (tInt Tryz.prog 174 = some .u32) ∧ (isConc Tryz.prog 174 = true) ∧ (tSz Tryz.prog 176 = some 1) ∧ (ldK Tryz.prog 176 = some none) ∧ (tZero Tryz.prog 176 = some (.nilFunc)) ∧ (isConc Tryz.prog 176 = true) ∧ (tSz Tryz.prog 178 = some 1) ∧ (ldK Tryz.prog 178 = some none) ∧ (tZero Tryz.prog 178 = some (.nilFunc)) ∧ (isConc Tryz.prog 178 = true) ∧ (tSz Tryz.prog 179 = some 1) ∧ (ldK Tryz.prog 179 = some none) ∧ (tZero Tryz.prog 179 = some (.nilFunc)) ∧ (isConc Tryz.prog 179 = true) ∧ (tSz Tryz.prog 180 = some 1) ∧ (ldK Tryz.prog 180 = some none) ∧ (tZero Tryz.prog 180 = some (.nilFunc)) ∧ (isConc Tryz.prog 180 = true) ∧ (tSz Tryz.prog 182 = some 1) ∧ (ldK Tryz.prog 182 = some none) ∧ (tZero Tryz.prog 182 = some (.nilFunc)) ∧ (isConc Tryz.prog 182 = true) ∧ (tSz Tryz.prog 183 = some 1) ∧ (ldK Tryz.prog 183 = some none) ∧ (tZero Tryz.prog 183 = some (.nilFunc)) ∧ (isConc Tryz.prog 183 = true) ∧ (tSz Tryz.prog 184 = some 1) ∧ (ldK Tryz.prog 184 = some none) ∧ (tZero Tryz.prog 184 = some (.nilFunc)) ∧ (isConc Tryz.prog 184 = true) ∧ (tSz Tryz.prog 185 = some 1) ∧ (ldK Tryz.prog 185 = some none) ∧ (tZero Tryz.prog 185 = some (.nilFunc)) ∧ (isConc Tryz.prog 185 = true) ∧ (tSz Tryz.prog 186 = some 1) ∧ (ldK Tryz.prog 186 = some none) ∧ (tZero Tryz.prog 186 = some (.nilFunc)) ∧ (isConc Tryz.prog 186 = true) ∧ (tSz Tryz.prog 188 = some 1) := by
  refine ⟨?_, ?_, ?_, ?_, ?_, ?_, ?_, ?_, ?_, ?_, ?_, ?_, ?_, ?_, ?_, ?_, ?_, ?_, ?_, ?_, ?_, ?_, ?_, ?_, ?_, ?_, ?_, ?_, ?_, ?_, ?_, ?_, ?_, ?_, ?_, ?_, ?_, ?_, ?_, ?_⟩ <;> kernel_rfl
theorem tf17 : (ldK Tryz.prog 188 = some none) ∧ (tZero Tryz.prog 188 = some (.nilFunc)) ∧ (isConc Tryz.prog 188 = true) ∧ (tSz Tryz.prog 190 = some 3) ∧ (ldK Tryz.prog 190 = some (some 3)) ∧ (tZero Tryz.prog 190 = some (.agg #[.string ⟨#[]⟩, .string ⟨#[]⟩, .nilIface])) ∧ (isConc Tryz.prog 190 = true) ∧ (fOff Tryz.prog 190 0 = some 0) ∧ (fOff Tryz.prog 190 1 = some 1) ∧ (fOff Tryz.prog 190 2 = some 2) ∧ (tSz Tryz.prog 191 = some 1) ∧ (ldK Tryz.prog 191 = some none) ∧ (tZero Tryz.prog 191 = some (.nilFunc)) ∧ (isConc Tryz.prog 191 = true) ∧ (tSz Tryz.prog 192 = some 1) ∧ (ldK Tryz.prog 192 = some none) ∧ (tZero Tryz.prog 192 = some (.nilFunc)) ∧ (isConc Tryz.prog 192 = true) ∧ (tSz Tryz.prog 195 = some 1) ∧ (ldK Tryz.prog 195 = some none) ∧ (tZero Tryz.prog 195 = some (.nilFunc)) ∧ (isConc Tryz.prog 195 = true) ∧ (tSz Tryz.prog 196 = some 1) ∧ (ldK Tryz.prog 196 = some none) ∧ (tZero Tryz.prog 196 = some (.nilFunc)) ∧ (isConc Tryz.prog 196 = true) ∧ (tSz Tryz.prog 197 = some 1) ∧ (ldK Tryz.prog 197 = some none) ∧ (tZero Tryz.prog 197 = some (.nilFunc)) ∧ (isConc Tryz.prog 197 = true) ∧ (tSz Tryz.prog 198 = some 1) ∧ (ldK Tryz.prog 198 = some none) ∧ (tZero Tryz.prog 198 = some (.nilFunc)) ∧ (isConc Tryz.prog 198 = true) ∧ (tSz Tryz.prog 199 = some 1) ∧ (ldK Tryz.prog 199 = some none) ∧ (tZero Tryz.prog 199 = some (.nilFunc)) ∧ (isConc Tryz.prog 199 = true) ∧ (tSz Tryz.prog 201 = some 1) ∧ (ldK Tryz.prog 201 = some none) := by
  refine ⟨?_, ?_, ?_, ?_, ?_, ?_, ?_, ?_, ?_, ?_, ?_, ?_, ?_, ?_, ?_, ?_, ?_, ?_, ?_, ?_, ?_, ?_, ?_, ?_, ?_, ?_, ?_, ?_, ?_, ?_, ?_, ?_, ?_, ?_, ?_, ?_, ?_, ?_, ?_, ?_⟩ <;> kernel_rfl
theorem tf18 : (tZero Tryz.prog 201 = some (.nilFunc)) ∧ (isConc Tryz.prog 201 = true) ∧ (tSz Tryz.prog 202 = some 1) ∧ (ldK Tryz.prog 202 = some none) ∧ (tZero Tryz.prog 202 = some (.nilFunc)) ∧ (isConc Tryz.prog 202 = true) ∧ (tSz Tryz.prog 203 = some 1) ∧ (ldK Tryz.prog 203 = some none) ∧ (tZero Tryz.prog 203 = some (.nilFunc)) ∧ (isConc Tryz.prog 203 = true) ∧ (tSz Tryz.prog 204 = some 1) ∧ (ldK Tryz.prog 204 = some none) ∧ (tZero Tryz.prog 204 = some (.nilFunc)) ∧ (isConc Tryz.prog 204 = true) ∧ (tSz Tryz.prog 205 = some 1) ∧ (ldK Tryz.prog 205 = some none) ∧ (tZero Tryz.prog 205 = some (.nilFunc)) ∧ (isConc Tryz.prog 205 = true) ∧ (tSz Tryz.prog 206 = some 1) ∧ (ldK Tryz.prog 206 = some none) ∧ (tZero Tryz.prog 206 = some (.pointer none)) ∧ (isConc Tryz.prog 206 = true) ∧ (tSz Tryz.prog 208 = some 1) ∧ (ldK Tryz.prog 208 = some (some 1)) ∧ (tZero Tryz.prog 208 = some (.agg #[.string ⟨#[]⟩])) ∧ (isConc Tryz.prog 208 = true) ∧ (fOff Tryz.prog 208 0 = some 0) ∧ (tSz Tryz.prog 209 = some 1) ∧ (ldK Tryz.prog 209 = some none) ∧ (tZero Tryz.prog 209 = some (.nilFunc)) ∧ (isConc Tryz.prog 209 = true) ∧ (tSz Tryz.prog 212 = some 2) ∧ (ldK Tryz.prog 212 = some (some 2)) ∧ (tZero Tryz.prog 212 = some (.agg #[.int .u8 0, .int .u8 0])) ∧ (isConc Tryz.prog 212 = true) ∧ (fOff Tryz.prog 212 0 = some 0) ∧ (fOff Tryz.prog 212 1 = some 1) ∧ (tSz Tryz.prog 215 = some 1) ∧ (ldK Tryz.prog 215 = some none) ∧ (tZero Tryz.prog 215 = some (.nilFunc)) := by
  refine ⟨?_, ?_, ?_, ?_, ?_, ?_, ?_, ?_, ?_, ?_, ?_, ?_, ?_, ?_, ?_, ?_, ?_, ?_, ?_, ?_, ?_, ?_, ?_, ?_, ?_, ?_, ?_, ?_, ?_, ?_, ?_, ?_, ?_, ?_, ?_, ?_, ?_, ?_, ?_, ?_⟩ <;> kernel_rfl
theorem tf19 : (isConc Tryz.prog 215 = true) ∧ (tSz Tryz.prog 216 = some 1) ∧ (ldK Tryz.prog 216 = some none) ∧ (tZero Tryz.prog 216 = some (.nilFunc)) ∧ (isConc Tryz.prog 216 = true) ∧ (tSz Tryz.prog 218 = some 1) ∧ (ldK Tryz.prog 218 = some none) ∧ (tZero Tryz.prog 218 = some (.nilFunc)) ∧ (isConc Tryz.prog 218 = true) ∧ (tSz Tryz.prog 219 = some 1) ∧ (ldK Tryz.prog 219 = some none) ∧ (tZero Tryz.prog 219 = some (.slice none 0 0)) ∧ (tElem Tryz.prog 219 = some (228, 5)) ∧ (isConc Tryz.prog 219 = true) ∧ (tSz Tryz.prog 222 = some 1) ∧ (ldK Tryz.prog 222 = some none) ∧ (tZero Tryz.prog 222 = some (.pointer none)) ∧ (isConc Tryz.prog 222 = true) ∧ (tSz Tryz.prog 223 = some 1) ∧ (ldK Tryz.prog 223 = some none) ∧ (tZero Tryz.prog 223 = some (.nilFunc)) ∧ (isConc Tryz.prog 223 = true) ∧ (tSz Tryz.prog 224 = some 1) ∧ (ldK Tryz.prog 224 = some none) ∧ (tZero Tryz.prog 224 = some (.nilFunc)) ∧ (isConc Tryz.prog 224 = true) ∧ (tSz Tryz.prog 228 = some 5) ∧ (ldK Tryz.prog 228 = some (some 5)) ∧ (isConc Tryz.prog 228 = true) ∧ (fOff Tryz.prog 228 0 = some 0) ∧ (fOff Tryz.prog 228 1 = some 1) ∧ (fOff Tryz.prog 228 2 = some 2) ∧ (tSz Tryz.prog 230 = some 4) ∧ (ldK Tryz.prog 230 = some (some 4)) ∧ (tZero Tryz.prog 230 = some (.agg #[.pointer none, .pointer none, .pointer none, .string ⟨#[]⟩])) ∧ (isConc Tryz.prog 230 = true) ∧ (fOff Tryz.prog 230 0 = some 0) ∧ (fOff Tryz.prog 230 1 = some 1) ∧ (fOff Tryz.prog 230 2 = some 2) ∧ (fOff Tryz.prog 230 3 = some 3) := by
  refine ⟨?_, ?_, ?_, ?_, ?_, ?_, ?_, ?_, ?_, ?_, ?_, ?_, ?_, ?_, ?_, ?_, ?_, ?_, ?_, ?_, ?_, ?_, ?_, ?_, ?_, ?_, ?_, ?_, ?_, ?_, ?_, ?_, ?_, ?_, ?_, ?_, ?_, ?_, ?_, ?_⟩ <;> kernel_rfl
theorem tf20 : (tSz Tryz.prog 233 = some 0) ∧ (ldK Tryz.prog 233 = some (some 0)) ∧ (isConc Tryz.prog 233 = true) ∧ (tSz Tryz.prog 234 = some 1) ∧ (ldK Tryz.prog 234 = some none) ∧ (tZero Tryz.prog 234 = some (.int .u8 0)) ∧ (tInt Tryz.prog 234 = some .u8) ∧ (isConc Tryz.prog 234 = true) ∧ (tSz Tryz.prog 235 = some 1) ∧ (ldK Tryz.prog 235 = some none) ∧ (tZero Tryz.prog 235 = some (.int .u8 0)) ∧ (tInt Tryz.prog 235 = some .u8) ∧ (isConc Tryz.prog 235 = true) ∧ (tSz Tryz.prog 236 = some 1) ∧ (ldK Tryz.prog 236 = some none) ∧ (tZero Tryz.prog 236 = some (.nilFunc)) ∧ (isConc Tryz.prog 236 = true) ∧ (tSz Tryz.prog 237 = some 1) ∧ (ldK Tryz.prog 237 = some none) ∧ (tZero Tryz.prog 237 = some (.int .i32 0)) ∧ (tInt Tryz.prog 237 = some .i32) ∧ (isConc Tryz.prog 237 = true) ∧ (tSz Tryz.prog 238 = some 1) ∧ (ldK Tryz.prog 238 = some none) ∧ (tZero Tryz.prog 238 = some (.int .i32 0)) ∧ (tInt Tryz.prog 238 = some .i32) ∧ (isConc Tryz.prog 238 = true) ∧ (tSz Tryz.prog 240 = some 11) ∧ (ldK Tryz.prog 240 = some (some 11)) ∧ (tZero Tryz.prog 240 = some (.agg #[.int .u64 0, .int .u64 0, .int .u32 0, .int .u8 0, .int .u8 0, .int .u8 0, .int .u8 0, .nilFunc, .pointer none, .int .i32 0, .int .i32 0])) ∧ (isConc Tryz.prog 240 = true) ∧ (fOff Tryz.prog 240 0 = some 0) ∧ (fOff Tryz.prog 240 1 = some 1) ∧ (fOff Tryz.prog 240 2 = some 2) ∧ (fOff Tryz.prog 240 3 = some 3) ∧ (fOff Tryz.prog 240 4 = some 4) ∧ (fOff Tryz.prog 240 5 = some 5) ∧ (fOff Tryz.prog 240 6 = some 6) ∧ (fOff Tryz.prog 240 7 = some 7) ∧ (fOff Tryz.prog 240 8 = some 8) := by
  refine ⟨?_, ?_, ?_, ?_, ?_, ?_, ?_, ?_, ?_, ?_, ?_, ?_, ?_, ?_, ?_, ?_, ?_, ?_, ?_, ?_, ?_, ?_, ?_, ?_, ?_, ?_, ?_, ?_, ?_, ?_, ?_, ?_, ?_, ?_, ?_, ?_, ?_, ?_, ?_, ?_⟩ <;> kernel_rfl
theorem tf21 : (fOff Tryz.prog 240 9 = some 9) ∧ (fOff Tryz.prog 240 10 = some 10) ∧ (hasBody Tryz.prog 3 = true) ∧ (hasBody Tryz.prog 4 = true) ∧ (hasBody Tryz.prog 5 = true) ∧ (hasBody Tryz.prog 6 = true) ∧ (hasBody Tryz.prog 7 = true) ∧ (hasBody Tryz.prog 8 = true) ∧ (hasBody Tryz.prog 9 = true) ∧ (hasBody Tryz.prog 10 = true) ∧ (hasBody Tryz.prog 11 = true) ∧ (hasBody Tryz.prog 12 = true) ∧ (hasBody Tryz.prog 13 = true) ∧ (hasBody Tryz.prog 14 = true) ∧ (hasBody Tryz.prog 15 = true) ∧ (hasBody Tryz.prog 16 = true) ∧ (hasBody Tryz.prog 17 = true) ∧ (hasBody Tryz.prog 18 = true) ∧ (hasBody Tryz.prog 19 = true) ∧ (hasBody Tryz.prog 20 = true) ∧ (hasBody Tryz.prog 21 = true) ∧ (hasBody Tryz.prog 22 = true) ∧ (hasBody Tryz.prog 23 = true) ∧ (hasBody Tryz.prog 24 = true) ∧ (hasBody Tryz.prog 25 = true) ∧ (hasBody Tryz.prog 26 = true) ∧ (hasBody Tryz.prog 27 = true) ∧ (hasBody Tryz.prog 28 = true) ∧ (hasBody Tryz.prog 29 = true) ∧ (hasBody Tryz.prog 30 = true) ∧ (hasBody Tryz.prog 31 = true) ∧ (hasBody Tryz.prog 32 = true) ∧ (hasBody Tryz.prog 33 = true) ∧ (hasBody Tryz.prog 34 = true) ∧ (hasBody Tryz.prog 35 = true) ∧ (hasBody Tryz.prog 36 = true) ∧ (hasBody Tryz.prog 37 = true) ∧ (hasBody Tryz.prog 38 = true) ∧ (hasBody Tryz.prog 39 = true) ∧ (hasBody Tryz.prog 40 = true) := by
  refine ⟨?_, ?_, ?_, ?_, ?_, ?_, ?_, ?_, ?_, ?_, ?_, ?_, ?_, ?_, ?_, ?_, ?_, ?_, ?_, ?_, ?_, ?_, ?_, ?_, ?_, ?_, ?_, ?_, ?_, ?_, ?_, ?_, ?_, ?_, ?_, ?_, ?_, ?_, ?_, ?_⟩ <;> kernel_rfl
theorem tf22 : (hasBody Tryz.prog 41 = true) ∧ (hasBody Tryz.prog 42 = true) ∧ (hasBody Tryz.prog 43 = true) ∧ (hasBody Tryz.prog 44 = true) ∧ (hasBody Tryz.prog 45 = true) ∧ (hasBody Tryz.prog 46 = true) ∧ (hasBody Tryz.prog 47 = true) ∧ (hasBody Tryz.prog 48 = true) ∧ (hasBody Tryz.prog 49 = true) ∧ (hasBody Tryz.prog 50 = true) ∧ (hasBody Tryz.prog 51 = true) ∧ (hasBody Tryz.prog 52 = true) ∧ (hasBody Tryz.prog 53 = true) ∧ (hasBody Tryz.prog 54 = true) ∧ (hasBody Tryz.prog 55 = true) ∧ (hasBody Tryz.prog 56 = true) ∧ (hasBody Tryz.prog 57 = true) ∧ (hasBody Tryz.prog 58 = true) ∧ (hasBody Tryz.prog 59 = true) ∧ (hasBody Tryz.prog 60 = true) ∧ (hasBody Tryz.prog 61 = true) ∧ (hasBody Tryz.prog 62 = true) ∧ (hasBody Tryz.prog 63 = true) ∧ (hasBody Tryz.prog 64 = true) ∧ (hasBody Tryz.prog 65 = true) ∧ (hasBody Tryz.prog 66 = true) ∧ (hasBody Tryz.prog 67 = true) ∧ (hasBody Tryz.prog 68 = true) ∧ (hasBody Tryz.prog 69 = true) ∧ (hasBody Tryz.prog 70 = true) ∧ (hasBody Tryz.prog 71 = true) ∧ (hasBody Tryz.prog 72 = true) ∧ (hasBody Tryz.prog 73 = true) ∧ (hasBody Tryz.prog 74 = true) ∧ (hasBody Tryz.prog 75 = true) ∧ (hasBody Tryz.prog 76 = true) ∧ (hasBody Tryz.prog 77 = true) ∧ (hasBody Tryz.prog 78 = true) ∧ (hasBody Tryz.prog 79 = true) ∧ (hasBody Tryz.prog 80 = true) := by
  refine ⟨?_, ?_, ?_, ?_, ?_, ?_, ?_, ?_, ?_, ?_, ?_, ?_, ?_, ?_, ?_, ?_, ?_, ?_, ?_, ?_, ?_, ?_, ?_, ?_, ?_, ?_, ?_, ?_, ?_, ?_, ?_, ?_, ?_, ?_, ?_, ?_, ?_, ?_, ?_, ?_⟩ <;> kernel_rfl
theorem tf23 : (hasBody Tryz.prog 81 = true) ∧ (hasBody Tryz.prog 82 = true) ∧ (hasBody Tryz.prog 83 = true) ∧ (hasBody Tryz.prog 84 = true) ∧ (hasBody Tryz.prog 85 = true) ∧ (hasBody Tryz.prog 86 = true) ∧ (hasBody Tryz.prog 87 = true) ∧ (hasBody Tryz.prog 88 = true) ∧ (hasBody Tryz.prog 89 = true) ∧ (hasBody Tryz.prog 90 = true) ∧ (hasBody Tryz.prog 91 = true) ∧ (hasBody Tryz.prog 92 = true) ∧ (hasBody Tryz.prog 93 = true) ∧ (hasBody Tryz.prog 94 = true) ∧ (hasBody Tryz.prog 95 = true) ∧ (hasBody Tryz.prog 96 = true) ∧ (hasBody Tryz.prog 97 = true) ∧ (hasBody Tryz.prog 98 = true) ∧ (hasBody Tryz.prog 99 = true) ∧ (hasBody Tryz.prog 100 = true) ∧ (hasBody Tryz.prog 101 = true) ∧ (hasBody Tryz.prog 102 = true) ∧ (hasBody Tryz.prog 103 = true) ∧ (hasBody Tryz.prog 104 = true) ∧ (hasBody Tryz.prog 105 = true) ∧ (hasBody Tryz.prog 106 = true) ∧ (hasBody Tryz.prog 107 = true) ∧ (hasBody Tryz.prog 108 = true) ∧ (hasBody Tryz.prog 109 = true) ∧ (hasBody Tryz.prog 110 = true) ∧ (hasBody Tryz.prog 111 = true) ∧ (hasBody Tryz.prog 112 = true) ∧ (hasBody Tryz.prog 113 = true) ∧ (hasBody Tryz.prog 114 = true) ∧ (hasBody Tryz.prog 115 = true) ∧ (hasBody Tryz.prog 116 = true) ∧ (hasBody Tryz.prog 117 = true) ∧ (hasBody Tryz.prog 118 = true) ∧ (hasBody Tryz.prog 119 = true) ∧ (hasBody Tryz.prog 120 = true) := by
  refine ⟨?_, ?_, ?_, ?_, ?_, ?_, ?_, ?_, ?_, ?_, ?_, ?_, ?_, ?_, ?_, ?_, ?_, ?_, ?_, ?_, ?_, ?_, ?_, ?_, ?_, ?_, ?_, ?_, ?_, ?_, ?_, ?_, ?_, ?_, ?_, ?_, ?_, ?_, ?_, ?_⟩ <;> kernel_rfl
theorem tf24 : (hasBody Tryz.prog 121 = true) ∧ (hasBody Tryz.prog 122 = true) ∧ (hasBody Tryz.prog 123 = true) ∧ (hasBody Tryz.prog 124 = true) ∧ (hasBody Tryz.prog 125 = true) ∧ (hasBody Tryz.prog 126 = true) ∧ (hasBody Tryz.prog 127 = true) ∧ (hasBody Tryz.prog 128 = true) ∧ (hasBody Tryz.prog 130 = true) ∧ (hasBody Tryz.prog 131 = true) ∧ (hasBody Tryz.prog 133 = true) ∧ (hasBody Tryz.prog 134 = true) ∧ (hasBody Tryz.prog 136 = true) ∧ (hasBody Tryz.prog 137 = true) ∧ (hasBody Tryz.prog 138 = true) ∧ (hasBody Tryz.prog 139 = true) ∧ (hasBody Tryz.prog 140 = true) ∧ (hasBody Tryz.prog 141 = true) ∧ (hasBody Tryz.prog 142 = true) ∧ (hasBody Tryz.prog 143 = true) ∧ (hasBody Tryz.prog 144 = true) ∧ (hasBody Tryz.prog 145 = true) ∧ (hasBody Tryz.prog 146 = true) ∧ (hasBody Tryz.prog 147 = true) ∧ (hasBody Tryz.prog 148 = true) ∧ (hasBody Tryz.prog 149 = true) ∧ (hasBody Tryz.prog 150 = true) ∧ (hasBody Tryz.prog 151 = true) ∧ (hasBody Tryz.prog 152 = true) ∧ (hasBody Tryz.prog 153 = true) ∧ (hasBody Tryz.prog 154 = true) ∧ (hasBody Tryz.prog 155 = true) ∧ (hasBody Tryz.prog 156 = true) ∧ (hasBody Tryz.prog 157 = true) ∧ (hasBody Tryz.prog 158 = true) ∧ (hasBody Tryz.prog 159 = true) ∧ (hasBody Tryz.prog 161 = true) ∧ (hasBody Tryz.prog 162 = true) ∧ (hasBody Tryz.prog 163 = true) ∧ (hasBody Tryz.prog 164 = true) := by
  refine ⟨?_, ?_, ?_, ?_, ?_, ?_, ?_, ?_, ?_, ?_, ?_, ?_, ?_, ?_, ?_, ?_, ?_, ?_, ?_, ?_, ?_, ?_, ?_, ?_, ?_, ?_, ?_, ?_, ?_, ?_, ?_, ?_, ?_, ?_, ?_, ?_, ?_, ?_, ?_, ?_⟩ <;> kernel_rfl
theorem tf25 : (hasBody Tryz.prog 166 = true) ∧ (hasBody Tryz.prog 167 = true) ∧ (hasBody Tryz.prog 168 = true) ∧ (hasBody Tryz.prog 169 = true) ∧ (hasBody Tryz.prog 170 = true) ∧ (hasBody Tryz.prog 171 = true) ∧ (hasBody Tryz.prog 172 = true) ∧ (hasBody Tryz.prog 173 = true) ∧ (hasBody Tryz.prog 174 = true) ∧ (hasBody Tryz.prog 175 = true) ∧ (hasBody Tryz.prog 176 = true) ∧ (hasBody Tryz.prog 177 = true) ∧ (hasBody Tryz.prog 178 = true) ∧ (hasBody Tryz.prog 179 = true) ∧ (hasBody Tryz.prog 180 = true) ∧ (hasBody Tryz.prog 181 = true) ∧ (hasBody Tryz.prog 182 = true) := by
  refine ⟨?_, ?_, ?_, ?_, ?_, ?_, ?_, ?_, ?_, ?_, ?_, ?_, ?_, ?_, ?_, ?_, ?_⟩ <;> kernel_rfl
attribute [push_cast] tf0 tf1 tf2 tf3 tf4 tf5 tf6 tf7 tf8 tf9 tf10 tf11 tf12 tf13 tf14 tf15 tf16 tf17 tf18 tf19 tf20 tf21 tf22 tf23 tf24 tf25
end Go.Proofs.YtciepffocobgpaaGreatDoor
