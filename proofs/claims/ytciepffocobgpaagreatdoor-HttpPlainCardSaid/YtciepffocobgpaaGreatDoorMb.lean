/- Plain words for texts, forms and requests, and the contracts of package text. -/
import Derived.Test.YtciepffocobgpaaGreatDoorMa
import Derived.IntWalk
import Derived.ShutString
import Derived.Test.YtciepffocobgpaaGreatDoorShelf
import Derived.Lib.Builder
import Derived.Lib.AppendStr
import Derived.Great.BuildSlice
import Derived.Shelf.Strings.Builder1
import Derived.Deep.RegionHeld
/-! Plain words: strings as lists of bytes; sums that do not wrap. -/
namespace Go.Sx
open Go

abbrev Bytes := List UInt8
def toL (s : ByteArray) : Bytes := s.data.toList
def mkS (l : Bytes) : ByteArray := ⟨l.toArray⟩
theorem toL_mkS (l : Bytes) : toL (mkS l) = l := by simp [toL, mkS]
theorem mkS_toL (s : ByteArray) : mkS (toL s) = s := by cases s; simp [toL, mkS]
theorem toL_len (s : ByteArray) : (toL s).length = s.size := by simp [toL]
theorem size_mkS (l : Bytes) : (mkS l).size = l.length := by simp [mkS, ByteArray.size]
theorem toL_inj {a b : ByteArray} (h : toL a = toL b) : a = b := by rw [← mkS_toL a, ← mkS_toL b, h]
theorem toL_append (a b : ByteArray) : toL (a ++ b) = toL a ++ toL b := by simp [toL]
theorem toL_extract (s : ByteArray) (a b : Nat) : toL (s.extract a b) = ((toL s).take b).drop a := by
  simp [toL, ByteArray.data_extract, Array.toList_extract, List.extract, List.drop_take]
theorem toL_empty : toL ⟨#[]⟩ = [] := rfl
theorem bt_get (s : ByteArray) (k : Nat) (h : k < (toL s).length) : bt s k = (((toL s)[k]).toNat : Int) := by
  have h' : k < s.size := by rw [← toL_len]; exact h
  simp [bt, h', toL]
  rfl
theorem bt_range (s : ByteArray) (i : Int) : 0 ≤ bt s i ∧ bt s i ≤ 255 := by
  unfold bt
  split
  · rename_i h; have := (s[i.toNat]'h).toNat_lt; omega
  · omega
theorem w64 {n : Int} (h1 : -9223372036854775808 ≤ n) (h2 : n ≤ 9223372036854775807) : IntKind.i64.wrap n = n := IntWalk.i64_in _ ⟨h1, h2⟩
theorem take_bt (s : ByteArray) (k : Nat) (h : k < s.size) : ∃ c : UInt8, (toL s)[k]? = some c ∧ (toL s).take (k + 1) = (toL s).take k ++ [c] ∧ bt s k = c.toNat := by
  have h' : k < (toL s).length := by rw [toL_len]; exact h
  exact ⟨(toL s)[k], List.getElem?_eq_getElem h', by rw [List.take_succ_eq_append_getElem h'], bt_get s k h'⟩
theorem take_all (s : ByteArray) (k : Nat) (h : s.size ≤ k) : (toL s).take k = toL s := List.take_of_length_le (by rw [toL_len]; exact h)
theorem u8_eq (a b : UInt8) : ((a.toNat : Int) = b.toNat) ↔ a = b := by
  constructor
  · intro h; exact UInt8.toNat_inj.1 (by omega)
  · rintro rfl; rfl
theorem dec_beq (a b : UInt8) : decide ((a.toNat : Int) = b.toNat) = (b == a) := by
  rw [Bool.eq_iff_iff, decide_eq_true_iff, beq_iff_eq, u8_eq]; exact eq_comm
end Go.Sx
/-! What the document says of texts, forms and requests: plain functions on lists of bytes. -/
namespace Go.Sx
open Go

/-! ### UTF-8 -/
def inR (l : Bytes) (i lo hi : Nat) : Bool := match l[i]? with | some c => decide (lo ≤ c.toNat) && decide (c.toNat ≤ hi) | none => false
/-- How many bytes the character has with which a text begins; 0: none does. -/
def chr (l : Bytes) : Nat :=
  match l with
  | [] => 0
  | x :: _ =>
    let c := x.toNat
    if c < 128 then 1
    else if decide (194 ≤ c) && decide (c ≤ 223) && inR l 1 128 191 then 2
    else if decide (224 ≤ c) && decide (c ≤ 239) && inR l 1 (if c = 224 then 160 else 128) (if c = 237 then 159 else 191) && inR l 2 128 191 then 3
    else if decide (240 ≤ c) && decide (c ≤ 244) && inR l 1 (if c = 240 then 144 else 128) (if c = 244 then 143 else 191) && inR l 2 128 191 && inR l 3 128 191 then 4
    else 0
def wrongFrom : Nat → Bytes → Nat → Int
  | 0, _, _ => -1
  | f + 1, l, i => if l = [] then -1 else if chr l = 0 then i else wrongFrom f (l.drop (chr l)) (i + chr l)
/-- Where a text isn't told; -1: it is. -/
def wrong (l : Bytes) : Int := wrongFrom (l.length + 1) l 0
def told (l : Bytes) : Bool := decide (wrong l < 0)

/-! ### Percent signs and forms -/
def hex (c : UInt8) : Int :=
  if 48 ≤ c.toNat ∧ c.toNat ≤ 57 then c.toNat - 48 else if 97 ≤ c.toNat ∧ c.toNat ≤ 102 then c.toNat - 87 else if 65 ≤ c.toNat ∧ c.toNat ≤ 70 then c.toNat - 55 else -1
def unesc : Nat → Bytes → Option Bytes
  | 0, _ => some []
  | _ + 1, [] => some []
  | f + 1, c :: r =>
    if c = 43 then (unesc f r).map (32 :: ·)
    else if c = 37 then
      match r with
      | a :: b :: r' => if hex a < 0 ∨ hex b < 0 then none else (unesc f r').map (UInt8.ofNat (16 * hex a + hex b).toNat :: ·)
      | _ => none
    else if c.toNat < 33 ∨ 126 < c.toNat ∨ c = 38 ∨ c = 61 then none
    else (unesc f r).map (c :: ·)
def unescape (l : Bytes) : Except Int Bytes :=
  match unesc l.length l with
  | none => .error 31
  | some o => if told o = true then .ok o else .error 30
/-- A text at its first c: what stands before it, and behind it. -/
def cut1 (c : UInt8) : Bytes → Option (Bytes × Bytes)
  | [] => none
  | x :: r => if x = c then some ([], r) else (cut1 c r).map fun p => (x :: p.1, p.2)
def parts (c : UInt8) : Bytes → List Bytes
  | [] => [[]]
  | x :: r => if x = c then [] :: parts c r else match parts c r with | p :: ps => (x :: p) :: ps | [] => [[x]]
abbrev Pr := Bytes × Bytes
def one (l : Bytes) : Except Int Pr :=
  match cut1 61 l with
  | none => .error 31
  | some (a, b) =>
    if b.contains 61 then .error 31 else
    match unescape a with
    | .error e => .error e
    | .ok n => match unescape b with
      | .error e => .error e
      | .ok v => if n = [] then .error 10 else .ok (n, v)
def formGo : List Bytes → List Pr → Except Int (List Pr)
  | [], acc => .ok acc
  | p :: ps, acc =>
    if acc.length = 32 then .error 14 else
    match one p with
    | .error e => .error e
    | .ok x => if acc.any (fun y => y.1 = x.1) then .error 15 else formGo ps (acc ++ [x])
def form (l : Bytes) : Except Int (List Pr) := if l = [] then .ok [] else formGo (parts 38 l) []

/-! ### Requests and answers -/
def okc (small digit : Bool) (c : Int) : Bool := ((decide (65 ≤ c) && decide (c ≤ 90)) || (small && decide (97 ≤ c) && decide (c ≤ 122))) || (digit && decide (48 ≤ c) && decide (c ≤ 57))
/-- Bytes of some kinds alone, from one to so many. -/
def inB (small digit : Bool) (more : Bytes) (most : Nat) (l : Bytes) : Bool := l.all (fun c => okc small digit c.toNat || more.contains c) && decide (1 ≤ l.length) && decide (l.length ≤ most)
def shownB (l : Bytes) : Bool := l.all fun c => decide (32 ≤ c.toNat) && decide (c.toNat ≤ 126)
def cutLine : Bytes → Option (Bytes × Bytes)
  | [] => none
  | x :: r => if x = 13 ∧ r.head? = some 10 then some ([], r.tail) else (cutLine r).map fun p => (x :: p.1, p.2)
def lowC (c : UInt8) : UInt8 := if 65 ≤ c.toNat ∧ c.toNat ≤ 90 then c + 32 else c
def trimL (l : Bytes) : Bytes := l.dropWhile (· = 32)
def trimR (l : Bytes) : Bytes := (l.reverse.dropWhile (· = 32)).reverse
def trim (l : Bytes) : Bytes := trimL (trimR l)
structure Req where
  method : Bytes
  path : Bytes
  query : List Pr
  hdrs : List Pr
  body : Bytes
def target (t : Bytes) : Except Int (Bytes × List Pr) :=
  let (p, q) := match cut1 63 t with | some (p, q) => (p, some q) | none => (t, none)
  if inB true true [45, 46, 95, 47, 58] 100 p = true ∧ p.head? = some 47 then
    match q with
    | none => .ok (p, [])
    | some q => match form q with
      | .error e => .error e
      | .ok l => .ok (p, l)
  else .error 31
def version : Bytes := [72, 84, 84, 80, 47, 49, 46, 49]
def firstLine (l : Bytes) : Except Int (Bytes × Bytes × List Pr) :=
  match parts 32 l with
  | [m, t, v] => if inB false false [] 10 m = true ∧ v = version then (match target t with | .error e => .error e | .ok (p, q) => .ok (m, p, q)) else .error 31
  | _ => .error 31
def hdr (l : Bytes) : Option Pr :=
  match cut1 58 l with
  | none => none
  | some (n, v) => if inB true true [45] 40 n = true ∧ shownB v = true then some (n.map lowC, trim v) else none
def findH (l : List Pr) (n : Bytes) : Option Bytes := (l.find? fun h => h.1 = n).map (·.2)
def hdrsGo : Nat → List Pr → Bytes → Except Int (List Pr × Bytes)
  | 0, _, _ => .error 31
  | f + 1, acc, s =>
    match cutLine s with
    | none => .error 31
    | some (l, rest) =>
      if l = [] then .ok (acc, rest) else
      if 32 ≤ acc.length then .error 14 else
      match hdr l with
      | none => .error 31
      | some h => if (findH acc h.1).isSome then .error 15 else hdrsGo f (acc ++ [h]) rest
def hdrs (s : Bytes) : Except Int (List Pr × Bytes) := hdrsGo (s.length + 1) [] s
def decNum (l : Bytes) : Nat := l.foldl (fun n c => 10 * n + (c.toNat - 48)) 0
def isDig (c : UInt8) : Bool := decide (48 ≤ c.toNat) && decide (c.toNat ≤ 57)
def clen : Bytes := [99, 111, 110, 116, 101, 110, 116, 45, 108, 101, 110, 103, 116, 104]
def tenc : Bytes := [116, 114, 97, 110, 115, 102, 101, 114, 45, 101, 110, 99, 111, 100, 105, 110, 103]
def hostB : Bytes := [104, 111, 115, 116]
def countB (l : List Pr) (most : Nat) : Except Int Nat :=
  match findH l clen with
  | none => .ok 0
  | some s =>
    if s.all isDig = true ∧ 1 ≤ s.length ∧ s.length ≤ 6 ∧ (s = [48] ∨ s.head? ≠ some 48) then
      if decNum s ≤ most then .ok (decNum s) else .error 11
    else .error 31
/-- What is left is the body: of so many bytes as the headers say. -/
def bodyB (l : List Pr) (s : Bytes) (most : Nat) : Except Int Bytes :=
  if (findH l tenc).isSome then .error 42 else
  match countB l most with
  | .error e => .error e
  | .ok n => if n = s.length then .ok s else .error 10
def parseReq (s : Bytes) : Except Int Req :=
  if 16384 < s.length then .error 11 else
  match cutLine s with
  | none => .error 31
  | some (l, rest) =>
    match firstLine l with
    | .error e => .error e
    | .ok (m, p, q) =>
      match hdrs rest with
      | .error e => .error e
      | .ok (h, rest2) =>
        if (findH h hostB).isSome then
          match bodyB h rest2 8192 with
          | .error e => .error e
          | .ok b => .ok ⟨m, p, q, h, b⟩
        else .error 10
def parseAns (s : Bytes) : Except Int (Nat × Bytes) :=
  if 81920 < s.length then .error 11 else
  match cutLine s with
  | none => .error 31
  | some (l, rest) =>
    if l.take 9 = version ++ [32] ∧ ((l.drop 9).take 3).all isDig = true ∧ 13 ≤ l.length ∧ l[12]? = some 32 ∧ shownB (l.drop 13) = true then
      match hdrs rest with
      | .error e => .error e
      | .ok (h, rest2) => match bodyB h rest2 65536 with
        | .error e => .error e
        | .ok b => .ok (decNum ((l.drop 9).take 3), b)
    else .error 31
end Go.Sx
/-! The library's words for cutting and splitting, and the document's. -/
namespace Go.Sx
open Go
theorem cut1_index (c : UInt8) : ∀ (l : Bytes), (cut1 c l = none ∧ Lib.index l [c] = -1) ∨ (∃ i : Nat, i < l.length ∧ Lib.index l [c] = i ∧ cut1 c l = some (l.take i, l.drop (i + 1)))
  | [] => .inl ⟨rfl, rfl⟩
  | x :: r => by
    unfold cut1 Lib.index
    by_cases h : x = c
    · subst h
      exact .inr ⟨0, by simp, by simp, by simp⟩
    · have hp : ([c].isPrefixOf (x :: r)) = false := by simp [List.isPrefixOf]; exact fun e => h e.symm
      rw [if_neg h, hp]
      rcases cut1_index c r with ⟨h1, h2⟩ | ⟨i, h0, h1, h2⟩
      · exact .inl ⟨by rw [h1]; rfl, by rw [h2]; rfl⟩
      · refine .inr ⟨i + 1, by simp; omega, ?_, by rw [h2]; rfl⟩
        rw [h1, if_neg (by simp), if_neg (by simp; try omega)]; rfl
theorem cut_one (c : UInt8) (l : Bytes) : Lib.cut l [c] = match cut1 c l with | some (a, b) => (a, b, true) | none => (l, [], false) := by
  unfold Lib.cut
  rcases cut1_index c l with ⟨h1, h2⟩ | ⟨i, h0, h1, h2⟩
  · rw [h1, h2]; rfl
  · rw [h2, h1, if_pos (by omega)]; rfl
theorem cutLine_index : ∀ (l : Bytes), (cutLine l = none ∧ Lib.index l [13, 10] = -1) ∨ (∃ i : Nat, i + 1 < l.length ∧ Lib.index l [13, 10] = i ∧ cutLine l = some (l.take i, l.drop (i + 2)))
  | [] => .inl ⟨rfl, rfl⟩
  | x :: r => by
    unfold cutLine Lib.index
    by_cases h : x = 13 ∧ r.head? = some 10
    · obtain ⟨rfl, h2⟩ := h
      rcases r with _ | ⟨y, r⟩
      · simp at h2
      · simp at h2; subst h2
        exact .inr ⟨0, by simp, by simp [List.isPrefixOf], by simp⟩
    · have hp : ([13, 10].isPrefixOf (x :: r)) = false := by
        rcases r with _ | ⟨y, r⟩
        · simp [List.isPrefixOf]
        · simp only [List.head?_cons, Option.some.injEq, not_and] at h
          simp only [List.isPrefixOf, Bool.and_true, Bool.and_eq_false_iff, beq_eq_false_iff_ne]
          by_cases hx : x = 13
          · exact .inr fun e => h hx e.symm
          · exact .inl fun e => hx e.symm
      rw [if_neg h, hp]
      rcases cutLine_index r with ⟨h1, h2⟩ | ⟨i, h0, h1, h2⟩
      · exact .inl ⟨by rw [h1]; rfl, by rw [h2]; rfl⟩
      · refine .inr ⟨i + 1, by simp; omega, ?_, by rw [h2]; rfl⟩
        rw [h1, if_neg (by simp), if_neg (by simp; try omega)]; rfl
theorem cut_line (l : Bytes) : Lib.cut l [13, 10] = match cutLine l with | some (a, b) => (a, b, true) | none => (l, [], false) := by
  unfold Lib.cut
  rcases cutLine_index l with ⟨h1, h2⟩ | ⟨i, h0, h1, h2⟩
  · rw [h1, h2]; rfl
  · rw [h2, h1, if_pos (by omega)]; rfl
theorem parts_ne (c : UInt8) (l : Bytes) : parts c l ≠ [] := by
  cases l with
  | nil => simp [parts]
  | cons x r => unfold parts; split; · simp
                split <;> simp
theorem parts_cut (c : UInt8) : ∀ (l : Bytes), parts c l = match cut1 c l with | some (a, b) => a :: parts c b | none => [l]
  | [] => rfl
  | x :: r => by
    rw [parts, cut1]
    by_cases h : x = c
    · rw [if_pos h, if_pos h]
    · rw [if_neg h, if_neg h, parts_cut c r]
      cases cut1 c r with
      | none => rfl
      | some p => obtain ⟨a, b⟩ := p; rfl
theorem cut1_len {c : UInt8} {l a b : Bytes} (h : cut1 c l = some (a, b)) : a.length + b.length + 1 = l.length ∧ b.length < l.length := by
  rcases cut1_index c l with ⟨h1, _⟩ | ⟨i, h0, _, h2⟩
  · rw [h1] at h; cases h
  · rw [h2] at h; cases h
    simp only [List.length_take, List.length_drop]; omega
theorem indexB_one (s : ByteArray) (c : UInt8) : Lib.indexB s ⟨#[c]⟩ = Lib.index (toL s) [c] := rfl
theorem countFrom_parts (c : UInt8) : ∀ (f : Nat) (l : Bytes), l.length < f → (parts c l).length = Lib.countFrom [c] f l + 1
  | 0, _, h => by omega
  | f + 1, l, h => by
    rw [parts_cut]
    unfold Lib.countFrom
    rcases cut1_index c l with ⟨h1, h2⟩ | ⟨i, h0, h1, h2⟩
    · rw [h1, h2]; rfl
    · rw [h2, h1, if_neg (by simp; try omega)]
      simp only [List.length_cons, Int.toNat_natCast, List.length_nil, Nat.zero_add]
      rw [countFrom_parts c f _ (by rw [List.length_drop]; omega)]; omega
theorem splitB_parts (c : UInt8) : ∀ (k : Nat) (s : ByteArray), (parts c (toL s)).length = k + 1 → (Lib.splitB ⟨#[c]⟩ 0 k s).map toL = parts c (toL s)
  | 0, s, h => by
    rw [parts_cut] at h ⊢
    cases hc : cut1 c (toL s) with
    | none => rfl
    | some p =>
      rw [hc] at h
      obtain ⟨a, b⟩ := p
      have := List.length_pos_iff.2 (parts_ne c b)
      simp only [List.length_cons] at h; omega
  | k + 1, s, h => by
    rw [parts_cut] at h ⊢
    rcases cut1_index c (toL s) with ⟨h1, h2⟩ | ⟨i, h0, h1, h2⟩
    · rw [h1] at h; simp at h
    · rw [Lib.splitB_hit _ _ _ _ i (by rw [indexB_one, h1])]
      rw [h2] at h ⊢
      simp only [List.length_cons] at h
      have e1 : toL (s.extract 0 (i + 0)) = (toL s).take i := by rw [toL_extract]; simp
      have e2 : toL (s.extract (i + (⟨#[c]⟩ : ByteArray).size) s.size) = (toL s).drop (i + 1) := by
        rw [show (⟨#[c]⟩ : ByteArray).size = 1 from rfl, toL_extract, take_all s s.size (Nat.le_refl _)]
      rw [List.map_cons, e1, splitB_parts c k _ (by rw [e2]; omega), e2]
theorem split_parts (s : ByteArray) (c : UInt8) : (Lib.splitB ⟨#[c]⟩ 0 (Lib.countB s ⟨#[c]⟩) s).map toL = parts c (toL s) ∧ (parts c (toL s)).length = Lib.countB s ⟨#[c]⟩ + 1 := by
  have h : (parts c (toL s)).length = Lib.countB s ⟨#[c]⟩ + 1 := countFrom_parts c _ _ (Nat.lt_succ_self _)
  exact ⟨splitB_parts c _ s h, h⟩
end Go.Sx
/-! Requests and answers, in the words of the program's contracts. -/
namespace Go.Sx
open Go
def upC : Bytes := [65, 66, 67, 68, 69, 70, 71, 72, 73, 74, 75, 76, 77, 78, 79, 80, 81, 82, 83, 84, 85, 86, 87, 88, 89, 90]
def nameC : Bytes := [65, 66, 67, 68, 69, 70, 71, 72, 73, 74, 75, 76, 77, 78, 79, 80, 81, 82, 83, 84, 85, 86, 87, 88, 89, 90, 97, 98, 99, 100, 101, 102, 103, 104, 105, 106, 107, 108, 109, 110, 111, 112, 113, 114, 115, 116, 117, 118, 119, 120, 121, 122, 48, 49, 50, 51, 52, 53, 54, 55, 56, 57, 45]
def pathC : Bytes := [65, 66, 67, 68, 69, 70, 71, 72, 73, 74, 75, 76, 77, 78, 79, 80, 81, 82, 83, 84, 85, 86, 87, 88, 89, 90, 97, 98, 99, 100, 101, 102, 103, 104, 105, 106, 107, 108, 109, 110, 111, 112, 113, 114, 115, 116, 117, 118, 119, 120, 121, 122, 48, 49, 50, 51, 52, 53, 54, 55, 56, 57, 45, 46, 95, 47, 58]
def digC : Bytes := [48, 49, 50, 51, 52, 53, 54, 55, 56, 57]
def ofB (chars : Bytes) (most : Int) (l : Bytes) : Bool := (!l.isEmpty && decide ((l.length : Int) ≤ most)) && l.all fun c => chars.contains c
def getP (ps : List Pr) (n : Bytes) : Option Bytes := (ps.find? fun p => p.1 == n).map (·.2)
def hdrS (l : Bytes) : Option Pr :=
  match cut1 58 l with
  | none => none
  | some (n, v) => if ofB nameC 40 n = true then if shownB v = true then some (Lib.toLowerA n, Lib.trimB v 32) else none else none
def targetS (t : Bytes) : Except Int (Bytes × List Pr) :=
  let pq : Bytes × Option Bytes := match cut1 63 t with | some (p, q) => (p, some q) | none => (t, none)
  if pq.1.head? = some 47 then
    if ofB pathC 100 pq.1 = true then
      match pq.2 with
      | none => .ok (pq.1, [])
      | some q => match form q with
        | .error e => .error e
        | .ok l => .ok (pq.1, l)
    else .error 31
  else .error 31
def firstS (l : Bytes) : Except Int (Bytes × Bytes × List Pr) :=
  match parts 32 l with
  | [m, t, v] => if ofB upC 10 m = true then if v = version then (match targetS t with | .error e => .error e | .ok (p, q) => .ok (m, p, q)) else .error 31 else .error 31
  | _ => .error 31
def hdrsS : Nat → List Pr → Bytes → Except Int (List Pr × Bytes)
  | 0, _, _ => .error 31
  | f + 1, acc, s =>
    match cutLine s with
    | none => .error 31
    | some (l, rest) =>
      if l = [] then .ok (acc, rest) else
      if ¬ acc.length < 32 then .error 14 else
      match hdrS l with
      | none => .error 31
      | some h => if (getP acc h.1).isSome then .error 15 else hdrsS f (acc ++ [h]) rest
def decN (l : Bytes) : Nat := l.foldl (fun n c => n * 10 + (c.toNat - 48)) 0
theorem decN_atoi (l : Bytes) (h : ∀ c ∈ l, c ∈ digC) (hne : l ≠ []) : Lib.atoi l = some (decN l : Int) := by
  have key : ∀ (m : Bytes) (acc : Nat), (∀ c ∈ m, c ∈ digC) → Lib.decFrom acc m = some (m.foldl (fun n c => n * 10 + (c.toNat - 48)) acc) := by
    intro m
    induction m with
    | nil => intro acc _; rfl
    | cons c m ih =>
      intro acc hm
      have hc := hm c (by simp)
      have hd : Lib.digitVal c = some (c.toNat - 48) := by
        simp only [digC, List.mem_cons, List.not_mem_nil, or_false] at hc
        rcases hc with rfl | rfl | rfl | rfl | rfl | rfl | rfl | rfl | rfl | rfl <;> rfl
      simp only [Lib.decFrom, hd, List.foldl_cons]
      exact ih _ fun c hc => hm c (by simp [hc])
  rcases l with _ | ⟨c, r⟩
  · exact absurd rfl hne
  · have hc := h c (by simp)
    have h45 : (c == 45) = false ∧ (c == 43) = false := by
      simp only [digC, List.mem_cons, List.not_mem_nil, or_false] at hc
      rcases hc with rfl | rfl | rfl | rfl | rfl | rfl | rfl | rfl | rfl | rfl <;> exact ⟨rfl, rfl⟩
    simp only [Lib.atoi, h45.1, h45.2, Bool.false_eq_true, if_false, Lib.decNat]
    rw [key _ _ h]; rfl
def countS (l : List Pr) (most : Int) : Except Int Int :=
  match getP l clen with
  | none => .ok 0
  | some s =>
    if ofB digC 6 s = true then
      if s = [48] ∨ s.head? ≠ some 48 then
        if (decN s : Int) ≤ most then .ok (decN s) else .error 11
      else .error 31
    else .error 31
def bodyS (l : List Pr) (s : Bytes) (most : Int) : Except Int Bytes :=
  if (getP l tenc).isSome then .error 42 else
  match countS l most with
  | .error e => .error e
  | .ok n => if n = s.length then .ok s else .error 10
def reqS (s : Bytes) : Except Int Req :=
  if 16384 < s.length then .error 11 else
  match cutLine s with
  | none => .error 31
  | some (l, rest) =>
    match firstS l with
    | .error e => .error e
    | .ok (m, p, q) =>
      match hdrsS (rest.length + 1) [] rest with
      | .error e => .error e
      | .ok (h, rest2) =>
        if (getP h hostB).isSome then
          match bodyS h rest2 8192 with
          | .error e => .error e
          | .ok b => .ok ⟨m, p, q, h, b⟩
        else .error 10
end Go.Sx
/-! strings.Builder: copyCheck, WriteByte, WriteString at a builder of the call's own. -/
namespace Go.Proofs.YtciepffocobgpaaGreatDoor
open Go Go.Sx Go.RowKit
set_option linter.unusedSimpArgs false

theorem getR_of {s : Result Value} {c : Cont} {φ : Value → World → Prop} (h : ∃ v w', s = .ok v w' ∧ φ v w') (hk : ∀ v w', φ v w' → c.K v w') : getR s c := by
  obtain ⟨v, w', h1, h2⟩ := h
  exact ⟨v, w', h1, hk _ _ h2⟩
theorem heap_alloc_old (w : World) (o : Obj) (k : Nat) (h : k < w.heap.size) : (w.alloc o).heap[k]? = w.heap[k]? := by
  show (w.heap.push o)[k]? = _
  rw [Array.getElem?_push_lt h, Array.getElem?_eq_getElem h]
theorem liesB : liesAt Tryz.prog Tryz.prog.depth 105 (2 / Tryz.prog.cellsOf 105) 0 105 1 = true := by kernel_rfl
set_option maxHeartbeats 1000000 in
set_option maxRecDepth 100000 in
theorem copyCheck_used (b : Nat) (w : World) (h0 : w.cell? ⟨b, 0, none⟩ = some (.pointer (some ⟨b, 0, none⟩))) :
    Calls Tryz.prog 100 #[.pointer (some ⟨b, 0, none⟩)] w fun e w' => e = .returned (.tuple #[]) ∧ w' = w := by
  obtain ⟨j, hj, hjs⟩ := Option.map_eq_some_iff.1 (show (Tryz.prog.info? 105).map (·.size) = some 2 by kernel_rfl)
  go_enter Tryz.func100, Tryz.ntmps100
  go_wp2
  rw [Lib.run_neq_ptr_same w _ Tryz.underlying103 hj]
  go_wp2
  go_end0
  exact ⟨rfl, rfl⟩
set_option maxHeartbeats 1000000 in
set_option maxRecDepth 100000 in
theorem copyCheck_fresh (b : Nat) (w : World) (h0 : w.cell? ⟨b, 0, none⟩ = some (.pointer none)) (hsh : w.shape? b = some (105, 2)) (hfz : w.frozen? ⟨b, 0, none⟩ = false) :
    Calls Tryz.prog 100 #[.pointer (some ⟨b, 0, none⟩)] w fun e w' => e = .returned (.tuple #[]) ∧ w' = w.setCell ⟨b, 0, none⟩ (.pointer (some ⟨b, 0, none⟩)) := by
  obtain ⟨j, hj, hjs⟩ := Option.map_eq_some_iff.1 (show (Tryz.prog.info? 105).map (·.size) = some 2 by kernel_rfl)
  go_enter Tryz.func100, Tryz.ntmps100
  go_wp2
  rw [Lib.run_to_unsafe w ⟨b, 0, none⟩ Tryz.underlying103 Tryz.underlying171 hj (by rw [hjs]; decide) hsh (Nat.zero_lt_succ 1)]
  simp only [Result.andThen]
  rw [Oper.upon_value]
  go_wp2
  rw [run_callFunc_extern Tryz.func129 (by kernel_rfl) (by kernel_rfl) (by kernel_rfl) (e := Extern.AbiNoEscape.same) (by kernel_rfl)]
  rw [Lib.run_noEscape]
  simp only [Result.andThen]
  rw [Oper.upon_value]
  go_wp2
  rw [Lib.run_from_unsafe w ⟨b, 0, none⟩ Tryz.underlying171 Tryz.underlying103 hj hsh liesB]
  simp only [Result.andThen]
  rw [Oper.upon_value]
  go_wp2
  go_end0
  exact ⟨rfl, rfl⟩
theorem copyCheck (B b : Nat) (bs : List Value) (w : World) (h : Lib.IsBuilder 105 5 B b bs w) :
    Calls Tryz.prog 100 #[.pointer (some ⟨b, 0, none⟩)] w fun e w' => e = .returned (.tuple #[]) ∧ (Lib.BuilderAt 105 5 B b (.pointer (some ⟨b, 0, none⟩)) bs w' ∧ Below B w w') := by
  rcases h with h | h
  · refine (copyCheck_fresh b w h.cell0 h.shape h.frozen0).mono ?_
    rintro e w' ⟨rfl, rfl⟩
    exact ⟨rfl, h.used _, (Below.refl B w).setCell (p := ⟨b, 0, none⟩) h.1 _⟩
  · refine (copyCheck_used b w h.cell0).mono ?_
    rintro e w' ⟨rfl, rfl⟩
    exact ⟨rfl, h, Below.refl B _⟩

theorem bsl22 (c : Int) (w : World) : (Instr.buildSlice 22 1 #[(0, .int .u8 c)]).run Tryz.prog w = .ok (.slice (some ⟨w.heap.size, 0, none⟩) 1 1) (w.alloc (.cells #[.int .u8 c] 5)) := by kernel_rfl
theorem infoB : (Tryz.prog.info? 5).map (fun i => (i.zero, i.size, i.bytes)) = some (some (.int .u8 0), 1, 1) := by kernel_rfl
theorem writeString (B b : Nat) (bs : List Value) (s : ByteArray) (w : World) (h : Lib.IsBuilder 105 5 B b bs w) (hlen : bs.length + s.size ≤ 140737488355328) (hBw : B ≤ w.heap.size) :
    Calls Tryz.prog 67 #[.pointer (some ⟨b, 0, none⟩), .string s] w fun e w' => e = .returned (.tuple #[.int .i64 s.size, .nilIface]) ∧ (Lib.BuilderAt 105 5 B b (.pointer (some ⟨b, 0, none⟩)) (bs ++ Lib.strCells s) w' ∧ Below B w w') := by
  obtain ⟨i0, hi, hz0, hz1, hz2⟩ := info_parts infoB
  refine calls_X Tryz.func67 rfl Tryz.ntmps67 Tryz.results67 rfl rfl (by kernel_rfl) fun R hR => ?_
  simp only [push_cast, Nat.reduceBEq, Nat.reduceLeDiff]
  refine (copyCheck B b bs w h).mono ?_
  rintro e w1 ⟨rfl, ⟨hB, v, hb, hown, hne⟩, hbel⟩
  have hc1 : w1.cell? ⟨b, 1, none⟩ = some v := by rw [Lib.cell_of_heap hb]; rfl
  simp only [push_cast, Nat.reduceBEq, Nat.reduceLeDiff, Nat.reduceAdd, hc1]
  refine getR_of (Lib.run_append_own_string (P := Tryz.prog) w1 B 22 9 22 5 i0 Tryz.underlying22 Tryz.underlying9 hi hz0 hz1 hz2 v bs.length bs hown s (by unfold maxLen; omega) (by omega) (Nat.le_trans hBw hbel.size)) ?_
  rintro v' w2 ⟨hown', hg, _⟩
  have hb2 : w2.heap[b]? = some (.cells #[.pointer (some ⟨b, 0, none⟩), v] 105 (0, 0)) := by
    rw [hg.block b (Array.getElem?_eq_some_iff.1 hb).1 (fun e => hne e.symm)]; exact hb
  have hl : (bs ++ Lib.strCells s).length = bs.length + s.size := by rw [List.length_append, Lib.strCells_length]
  rw [← hl] at hown'
  have hput := Lib.BuilderAt.put (p := .pointer (some ⟨b, 0, none⟩)) hB hb2 hown' (by decide)
  have hcv : v'.cells = #[v'] := by
    rcases hown'.2 with ⟨rfl, _⟩ | ⟨g, cap, cur, rfl, _⟩ <;> rfl
  have hiv : isCell v' = true := by
    rcases hown'.2 with ⟨rfl, _⟩ | ⟨g, cap, cur, rfl, _⟩ <;> rfl
  simp only [push_cast, Nat.reduceBEq, Nat.reduceLeDiff, Nat.reduceAdd, hcv, hiv, Lib.cell_of_heap hb2, Lib.frozen_of_heap hb2]
  refine hR _ _ ⟨rfl, hput, ?_⟩
  exact (hbel.grown hg (Nat.le_trans hBw hbel.size) (fun k hk => by
    rcases hown.2 with ⟨rfl, _⟩ | ⟨g, cap, cur, rfl, hBg, _⟩
    · cases hk
    · cases hk; exact hBg)).setCell (p := ⟨b, 1, none⟩) hB _
theorem writeByte (B b : Nat) (bs : List Value) (c : Int) (w : World) (h : Lib.IsBuilder 105 5 B b bs w) (hlen : bs.length + 1 ≤ 140737488355328) (hBw : B ≤ w.heap.size) :
    Calls Tryz.prog 77 #[.pointer (some ⟨b, 0, none⟩), .int .u8 c] w fun e w' => e = .returned .nilIface ∧ (Lib.BuilderAt 105 5 B b (.pointer (some ⟨b, 0, none⟩)) (bs ++ [.int .u8 c]) w' ∧ Below B w w') := by
  obtain ⟨i0, hi, hz0, hz1, hz2⟩ := info_parts infoB
  refine calls_X Tryz.func77 rfl Tryz.ntmps77 Tryz.results77 rfl rfl (by kernel_rfl) fun R hR => ?_
  simp only [push_cast, Nat.reduceBEq, Nat.reduceLeDiff, Nat.reduceAdd]
  refine (copyCheck B b bs w h).mono ?_
  rintro e w1 ⟨rfl, ⟨hB, v, hb, hown, hne⟩, hbel⟩
  have hc1 : w1.cell? ⟨b, 1, none⟩ = some v := by rw [Lib.cell_of_heap hb]; rfl
  simp only [push_cast, Nat.reduceBEq, Nat.reduceLeDiff, Nat.reduceAdd, hc1, bsl22]
  refine getR_of (run_append_own (P := Tryz.prog) (w1.alloc (.cells #[.int .u8 c] 5)) B 22 22 5 i0 (.int .u8 0) 1 1 Tryz.underlying22 hi hz0 hz1 hz2 rfl (by decide) v bs.length bs (hown.alloc _) ⟨w1.heap.size, 0, none⟩ 1 1 [.int .u8 c] rfl (cell_one_new _ _ _) (by simp; rfl) (by unfold maxLen; omega) (by omega) (by have := hbel.size; simp; omega)) ?_
  rintro v' w2 ⟨hown', hg, _⟩
  have hlt := (Array.getElem?_eq_some_iff.1 hb).1
  have hb2 : w2.heap[b]? = some (.cells #[.pointer (some ⟨b, 0, none⟩), v] 105 (0, 0)) := by
    rw [hg.block b (by simp; omega) (fun e => hne e.symm), heap_alloc_old w1 _ b hlt]; exact hb
  have hl : (bs ++ [Value.int .u8 c]).length = bs.length + 1 := by simp
  rw [← hl] at hown'
  have hput := Lib.BuilderAt.put (p := .pointer (some ⟨b, 0, none⟩)) hB hb2 hown' (by decide)
  have hcv : v'.cells = #[v'] := by
    rcases hown'.2 with ⟨rfl, _⟩ | ⟨g, cap, cur, rfl, _⟩ <;> rfl
  have hiv : isCell v' = true := by
    rcases hown'.2 with ⟨rfl, _⟩ | ⟨g, cap, cur, rfl, _⟩ <;> rfl
  simp only [push_cast, Nat.reduceBEq, Nat.reduceLeDiff, Nat.reduceAdd, hcv, hiv, Lib.cell_of_heap hb2, Lib.frozen_of_heap hb2]
  refine hR _ _ ⟨rfl, hput, ?_⟩
  exact ((hbel.alloc (Nat.le_trans hBw hbel.size) _).grown hg (by have := hbel.size; simp; omega) (fun k hk => by
    rcases hown.2 with ⟨rfl, _⟩ | ⟨g, cap, cur, rfl, hBg, _⟩
    · cases hk
    · cases hk; exact hBg)).setCell (p := ⟨b, 1, none⟩) hB _
end Go.Proofs.YtciepffocobgpaaGreatDoor
namespace Go.Proofs.YtciepffocobgpaaGreatDoor
open Go Go.Sx Go.RowKit
set_option linter.unusedSimpArgs false
theorem bld143 (a b : Int) (w : World) : Sem.run Tryz.prog (Instr.build 143 #[(0, .int .u8 a), (1, .int .u8 b)]) w = .ok (.agg #[.int .u8 a, .int .u8 b]) w := by kernel_rfl
theorem bsl139_1 (a b : Int) (w : World) : Sem.run Tryz.prog (Instr.buildSlice 139 1 #[(0, .agg #[.int .u8 a, .int .u8 b])]) w = .ok (.slice (some ⟨w.heap.size, 0, none⟩) 1 1) (w.alloc (.cells #[.int .u8 a, .int .u8 b] 143)) := by kernel_rfl
theorem bsl139_2 (a b a2 b2 : Int) (w : World) : Sem.run Tryz.prog (Instr.buildSlice 139 2 #[(0, .agg #[.int .u8 a, .int .u8 b]), (1, .agg #[.int .u8 a2, .int .u8 b2])]) w = .ok (.slice (some ⟨w.heap.size, 0, none⟩) 2 2) (w.alloc (.cells #[.int .u8 a, .int .u8 b, .int .u8 a2, .int .u8 b2] 143)) := by kernel_rfl
theorem bsl139_3 (a b a2 b2 a3 b3 : Int) (w : World) : Sem.run Tryz.prog (Instr.buildSlice 139 3 #[(0, .agg #[.int .u8 a, .int .u8 b]), (1, .agg #[.int .u8 a2, .int .u8 b2]), (2, .agg #[.int .u8 a3, .int .u8 b3])]) w = .ok (.slice (some ⟨w.heap.size, 0, none⟩) 3 3) (w.alloc (.cells #[.int .u8 a, .int .u8 b, .int .u8 a2, .int .u8 b2, .int .u8 a3, .int .u8 b3] 143)) := by kernel_rfl
theorem further (w : World) : Calls Tryz.prog 131 #[] w fun e w' => e = .returned (.agg #[.int .u8 128, .int .u8 191]) ∧ Below w.heap.size w w' := by
  refine calls_X Tryz.func131 rfl Tryz.ntmps131 Tryz.results131 rfl rfl (by kernel_rfl) fun R hR => ?_
  simp only [push_cast, Nat.reduceBEq, Nat.reduceLeDiff, Nat.reduceAdd, bld143]
  exact hR _ _ ⟨rfl, al_below _ _⟩
theorem has_ (a b x : Int) (w : World) : Calls Tryz.prog 104 #[.agg #[.int .u8 a, .int .u8 b], .int .u8 x] w fun e w' => e = .returned (.bool (decide (a ≤ x) && decide (x ≤ b))) ∧ Below w.heap.size w w' := by
  refine calls_X Tryz.func104 rfl Tryz.ntmps104 Tryz.results104 rfl rfl (by kernel_rfl) fun R hR => ?_
  simp only [push_cast, Nat.reduceBEq, Nat.reduceLeDiff, Nat.reduceAdd]
  exact hR _ _ ⟨rfl, al_below _ _⟩
def spans (c : Int) : Option (List (Int × Int)) :=
  if c < 128 then some [] else if c < 194 then none else if c < 224 then some [(128, 191)] else
  if c = 224 then some [(160, 191), (128, 191)] else if c = 237 then some [(128, 159), (128, 191)] else if c < 240 then some [(128, 191), (128, 191)] else
  if c = 240 then some [(144, 191), (128, 191), (128, 191)] else if c < 244 then some [(128, 191), (128, 191), (128, 191)] else
  if c = 244 then some [(128, 143), (128, 191), (128, 191)] else none
def SpanAt (w : World) (B : Nat) (A : Option Addr) (l : List (Int × Int)) : Prop :=
  l = [] ∨ ∃ b, A = some ⟨b, 0, none⟩ ∧ B ≤ b ∧ b < w.heap.size ∧ ∀ j lo hi, l[j]? = some (lo, hi) → w.cell? ⟨b, j * 2, none⟩ = some (.int .u8 lo) ∧ w.cell? ⟨b, j * 2 + 1, none⟩ = some (.int .u8 hi)
theorem behind (c : Int) (w : World) : Calls Tryz.prog 103 #[.int .u8 c] w fun e w' => ∃ A, e = .returned (.tuple #[.slice A ((spans c).getD []).length ((spans c).getD []).length, .bool (spans c).isSome]) ∧ SpanAt w' w.heap.size A ((spans c).getD []) ∧ Below w.heap.size w w' := by
  refine calls_X Tryz.func103 rfl Tryz.ntmps103 Tryz.results103 rfl rfl (by kernel_rfl) fun R hR => ?_
  simp only [push_cast, Nat.reduceBEq, Nat.reduceLeDiff, Nat.reduceAdd, bld143]
  refine (further _).mono ?_
  rintro e w1 ⟨rfl, hb⟩
  simp only [push_cast, Nat.reduceBEq, Nat.reduceLeDiff, Nat.reduceAdd, bld143, bsl139_1, bsl139_2, bsl139_3]
  have hs := hb.size
  simp only [decide_eq_true_eq, decide_eq_false_iff_not]
  repeat' (first | apply And.intro | intro _)
  all_goals
    refine hR _ _ ?_
    simp only [spans, *, if_true, if_false, Int.reduceLT, Int.reduceEq, Option.getD, List.length_cons, List.length_nil, Option.isSome]
    first
      | exact ⟨none, rfl, .inl rfl, Below_al hb _ (Nat.le_refl _)⟩
      | refine ⟨_, rfl, .inr ⟨w1.heap.size + 1, rfl, by omega, by simp only [push_cast]; omega, ?_⟩, Below_al hb _ (Nat.le_refl _)⟩
        rintro j lo hi hj
        rcases j with _ | _ | _ | j
        all_goals
          simp at hj
          try (obtain ⟨rfl, rfl⟩ := hj)
          try exact ⟨al_cell .., al_cell ..⟩
/-! character -/
theorem inR_ (l : Bytes) (i lo hi : Nat) : inR l i lo hi = true ↔ ∃ c : UInt8, l[i]? = some c ∧ lo ≤ c.toNat ∧ c.toNat ≤ hi := by
  unfold inR
  cases l[i]? <;> simp
def okAt (l : Bytes) (sp : List (Int × Int)) (j : Nat) : Prop := ∀ lo hi, sp[j]? = some (lo, hi) → ∃ c : UInt8, l[j + 1]? = some c ∧ lo ≤ c.toNat ∧ (c.toNat : Int) ≤ hi
theorem spans_cases (c : Nat) (sp : List (Int × Int)) (h : spans c = some sp) (h256 : c < 256) :
    (c < 128 ∧ sp = []) ∨ (194 ≤ c ∧ c ≤ 223 ∧ sp = [(128, 191)]) ∨
    (224 ≤ c ∧ c ≤ 239 ∧ sp = [(((if c = 224 then 160 else 128 : Nat) : Int), ((if c = 237 then 159 else 191 : Nat) : Int)), (128, 191)]) ∨
    (240 ≤ c ∧ c ≤ 244 ∧ sp = [(((if c = 240 then 144 else 128 : Nat) : Int), ((if c = 244 then 143 else 191 : Nat) : Int)), (128, 191), (128, 191)]) := by
  unfold spans at h
  repeat' (split at h)
  all_goals first
    | (cases h; done)
    | (obtain rfl := Option.some.inj h
       first
       | exact .inl ⟨by omega, rfl⟩
       | exact .inr (.inl ⟨by omega, by omega, rfl⟩)
       | (refine .inr (.inr (.inl ⟨by omega, by omega, ?_⟩)); split <;> split <;> first | rfl | omega)
       | (refine .inr (.inr (.inr ⟨by omega, by omega, ?_⟩)); split <;> split <;> first | rfl | omega))
theorem spans_len (c : Nat) (sp : List (Int × Int)) (h : spans c = some sp) : sp.length ≤ 3 := by
  unfold spans at h
  repeat' (split at h)
  all_goals first
    | (cases h; simp)
    | (cases h)
theorem spans_none (c : Nat) (h : spans c = none) : 128 ≤ c ∧ (c < 194 ∨ 244 < c) := by
  unfold spans at h
  repeat' (split at h)
  all_goals simp at h
  all_goals omega
theorem chr_iff (x : UInt8) (r : Bytes) (sp : List (Int × Int)) (h : spans x.toNat = some sp) : ((∀ j, j < sp.length → okAt (x :: r) sp j) → chr (x :: r) = 1 + sp.length) ∧ (∀ j, j < sp.length → ¬ okAt (x :: r) sp j → chr (x :: r) = 0) := by
  have key : ∀ j (lo hi : Nat), sp[j]? = some (((lo : Nat) : Int), ((hi : Nat) : Int)) → (okAt (x :: r) sp j ↔ inR (x :: r) (j + 1) lo hi = true) := by
    intro j lo hi hj
    rw [inR_]
    constructor
    · intro hk
      obtain ⟨c, h1, h2, h3⟩ := hk _ _ hj
      exact ⟨c, h1, by omega, by omega⟩
    · rintro ⟨c, h1, h2, h3⟩ lo' hi' hj'
      rw [hj] at hj'
      cases hj'
      exact ⟨c, h1, by omega, by omega⟩
  have hx := x.toNat_lt
  rcases spans_cases _ _ h hx with ⟨h1, rfl⟩ | ⟨h1, h2, rfl⟩ | ⟨h1, h2, rfl⟩ | ⟨h1, h2, rfl⟩
  · have e : chr (x :: r) = 1 := by simp [chr, h1]
    exact ⟨fun _ => e, fun j hj => by simp at hj⟩
  · have e : chr (x :: r) = if inR (x :: r) 1 128 191 = true then 2 else 0 := by
      simp only [chr, show ¬ x.toNat < 128 by omega, if_false, decide_eq_true h1, decide_eq_true h2, Bool.true_and, show ¬ 224 ≤ x.toNat by omega, show ¬ 240 ≤ x.toNat by omega, decide_false, Bool.false_and, Bool.false_eq_true]
    have k0 := key 0 128 191 rfl
    refine ⟨fun hok => ?_, fun j hj hn => ?_⟩
    · rw [e, if_pos (k0.1 (hok 0 (by simp)))]; rfl
    · obtain rfl : j = 0 := by simp at hj; omega
      rw [e, if_neg (fun hh => hn (k0.2 hh))]
  · have e : chr (x :: r) = if (inR (x :: r) 1 (if x.toNat = 224 then 160 else 128) (if x.toNat = 237 then 159 else 191) && inR (x :: r) 2 128 191) = true then 3 else 0 := by
      simp only [chr, show ¬ x.toNat < 128 by omega, if_false, show ¬ x.toNat ≤ 223 by omega, decide_false, Bool.and_false, Bool.false_and, Bool.false_eq_true, decide_eq_true h1, decide_eq_true h2, Bool.true_and, show ¬ 240 ≤ x.toNat by omega]
    have k0 := key 0 _ _ rfl
    have k1 := key 1 128 191 rfl
    refine ⟨fun hok => ?_, fun j hj hn => ?_⟩
    · rw [e, if_pos (by rw [k0.1 (hok 0 (by simp)), k1.1 (hok 1 (by simp))]; rfl)]; rfl
    · rw [e, if_neg]
      intro hh
      rw [Bool.and_eq_true] at hh
      rcases j with _ | _ | j
      · exact hn (k0.2 hh.1)
      · exact hn (k1.2 hh.2)
      · simp only [List.length_cons, List.length_nil] at hj; omega
  · have e : chr (x :: r) = if (inR (x :: r) 1 (if x.toNat = 240 then 144 else 128) (if x.toNat = 244 then 143 else 191) && inR (x :: r) 2 128 191 && inR (x :: r) 3 128 191) = true then 4 else 0 := by
      simp only [chr, show ¬ x.toNat < 128 by omega, if_false, show ¬ x.toNat ≤ 223 by omega, show ¬ x.toNat ≤ 239 by omega, decide_false, Bool.and_false, Bool.false_and, Bool.false_eq_true, decide_eq_true h1, decide_eq_true h2, Bool.true_and]
    have k0 := key 0 _ _ rfl
    have k1 := key 1 128 191 rfl
    have k2 := key 2 128 191 rfl
    refine ⟨fun hok => ?_, fun j hj hn => ?_⟩
    · rw [e, if_pos (by rw [k0.1 (hok 0 (by simp)), k1.1 (hok 1 (by simp)), k2.1 (hok 2 (by simp))]; rfl)]; rfl
    · rw [e, if_neg]
      intro hh
      rw [Bool.and_eq_true, Bool.and_eq_true] at hh
      rcases j with _ | _ | _ | j
      · exact hn (k0.2 hh.1.1)
      · exact hn (k1.2 hh.1.2)
      · exact hn (k2.2 hh.2)
      · simp only [List.length_cons, List.length_nil] at hj; omega
theorem chr_none (x : UInt8) (r : Bytes) (h : spans x.toNat = none) : chr (x :: r) = 0 := by
  obtain ⟨h1, h2⟩ := spans_none _ h
  rcases h2 with h2 | h2
  · simp only [chr, show ¬ x.toNat < 128 by omega, if_false, show ¬ 194 ≤ x.toNat by omega, show ¬ 224 ≤ x.toNat by omega, show ¬ 240 ≤ x.toNat by omega, decide_false, Bool.false_and, Bool.false_eq_true]
  · simp only [chr, show ¬ x.toNat < 128 by omega, if_false, show ¬ x.toNat ≤ 223 by omega, show ¬ x.toNat ≤ 239 by omega, show ¬ x.toNat ≤ 244 by omega, decide_false, Bool.and_false, Bool.false_and, Bool.false_eq_true]
theorem character (s : ByteArray) (x : UInt8) (r : Bytes) (hl : toL s = x :: r) (w : World) : Calls Tryz.prog 74 #[.string s] w fun e w' => e = .returned (.int .i64 (chr (toL s))) ∧ Below w.heap.size w w' := by
  have hx : bt s 0 = x.toNat := by
    rw [show (0 : Int) = ((0 : Nat) : Int) from rfl, bt_get s 0 (by rw [hl]; simp)]; simp [hl]
  have hsz : s.size = r.length + 1 := by rw [← toL_len, hl]; rfl
  refine calls_X Tryz.func74 rfl Tryz.ntmps74 Tryz.results74 rfl rfl (by kernel_rfl) fun R hR => ?_
  simp only [push_cast, Nat.reduceBEq, Nat.reduceLeDiff, Nat.reduceAdd]
  refine ⟨by omega, ?_⟩
  rw [hx]
  refine (behind _ _).mono ?_
  rintro e w1 ⟨A, rfl, hsp, hb⟩
  simp only [push_cast, Nat.reduceBEq, Nat.reduceLeDiff, Nat.reduceAdd]
  cases hspans : spans x.toNat with
  | none =>
    simp only [Option.isSome_none, Bool.not_false, Bool.true_or, true_implies, Bool.true_eq_false, false_implies, and_true]
    exact hR _ _ ⟨by rw [hl, chr_none x r hspans]; rfl, hb⟩
  | some sp =>
    rw [hspans] at hsp
    simp only [Option.getD_some] at hsp
    simp only [Option.isSome_some, Bool.not_true, Bool.false_or, Option.getD_some]
    refine ⟨fun hc => hR _ _ ⟨?_, hb⟩, fun hc => ?_⟩
    · simp only [decide_eq_true_eq, Int.ofNat_le] at hc
      rw [hl, (chr_iff x r sp hspans).2 r.length (by omega) ?_]
      · rfl
      · intro hok
        obtain ⟨p, hp⟩ : ∃ p, sp[r.length]? = some p := ⟨_, List.getElem?_eq_getElem (by omega)⟩
        obtain ⟨c, h1, _⟩ := hok p.1 p.2 hp
        simp at h1
    simp only [decide_eq_false_iff_not, Int.ofNat_le, Nat.not_le] at hc
    refine law_loop [(2, 2), (5, 6), (24, 36)] (fun n h w' => ∃ k : Nat, k ≤ sp.length ∧ n = sp.length - k ∧ h 24 = .int .i64 k ∧ (∀ j, j < k → okAt (toL s) sp j) ∧ Below w1.heap.size w1 w') sp.length ⟨0, by omega, by omega, rfl, fun j hj => by omega, Below.refl _ _⟩ ?_
    rintro n h w2 ⟨k, hk, hn, h24, hall, hw2⟩ T hT
    simp only [push_cast, Nat.reduceBEq, Nat.reduceLeDiff, Nat.reduceAdd, h24]
    refine ⟨fun hk2 => ?_, fun hk2 => ?_⟩
    · simp only [decide_eq_true_eq, Int.ofNat_lt] at hk2
      rcases hsp with rfl | ⟨b, rfl, hb1, hb2, hcells⟩
      · simp at hk2
      obtain ⟨⟨lo, hi⟩, hlh⟩ : ∃ p, sp[k]? = some p := ⟨sp[k], List.getElem?_eq_getElem hk2⟩
      obtain ⟨c1, c2⟩ := hcells k lo hi hlh
      have c1' := (hw2.cell (p := ⟨b, k * 2, none⟩) hb2).trans c1
      have c2' := (hw2.cell (p := ⟨b, k * 2 + 1, none⟩) hb2).trans c2
      simp only [push_cast, Nat.reduceBEq, Nat.reduceLeDiff, Nat.reduceAdd, c1', c2']
      refine ⟨⟨by omega, by omega⟩, ?_⟩
      refine law_quiet (C := Below (w2.heap.size + 1) (al w2 [([.int .u8 lo, .int .u8 hi], 143)])) (by kernel_rfl) (by kernel_rfl) (Below.refl _ _).drew ?_
      have d1 : cellC (Below (w2.heap.size + 1) (al w2 [([.int .u8 lo, .int .u8 hi], 143)])) ⟨w2.heap.size, 0, none⟩ = some (.int .u8 lo) := cellC_below (by simp) (al_cell0 ..)
      have d2 : cellC (Below (w2.heap.size + 1) (al w2 [([.int .u8 lo, .int .u8 hi], 143)])) ⟨w2.heap.size, 1, none⟩ = some (.int .u8 hi) := cellC_below (by simp) (al_cell0 ..)
      simp only [push_cast, Nat.reduceBEq, Nat.reduceLeDiff, Nat.reduceAdd, d1, d2]
      have h3 := spans_len _ _ hspans
      have hkl : k + 1 < (toL s).length := by rw [toL_len]; omega
      rw [w64 (n := (k : Int) + 1) (by omega) (by omega)]
      refine ⟨⟨by omega, by omega⟩, callQ_of (fun w => has_ _ _ _ w) (by simp [al_size]) ?_⟩
      rw [show ((k : Int) + 1) = ((k + 1 : Nat) : Int) from by omega, bt_get s (k + 1) hkl]
      simp only [push_cast, Nat.reduceBEq, Nat.reduceLeDiff, Nat.reduceAdd, h24]
      intro w3 hw3
      have hb3 : Below w1.heap.size w1 w3 := (Below_al hw2 _ (Nat.le_refl _)).trans (hw3.mono (by have := hw2.size; omega))
      refine ⟨fun hv => hR _ _ ⟨?_, hb.trans (hb3.mono hb.size)⟩, fun hv => ?_⟩
      · rw [hl, (chr_iff x r sp hspans).2 k hk2 ?_]
        · rfl
        · intro hok
          obtain ⟨c, h1, h2, h3⟩ := hok lo hi hlh
          rw [← hl, List.getElem?_eq_getElem hkl] at h1
          cases h1
          simp only [h2, h3, decide_true, Bool.and_self] at hv
          cases hv
      · have hk1 : IntKind.i64.wrap ((k : Int) + 1) = ((k + 1 : Nat) : Int) := w64 (by omega) (by omega)
        refine hT (sp.length - (k + 1)) _ _ (by simp only [push_cast, Nat.reduceBEq, Nat.reduceLeDiff]) (by omega) ⟨k + 1, by omega, rfl, ?_, ?_, hb3⟩
        · simp only [push_cast, Nat.reduceBEq, Nat.reduceLeDiff]; rw [w64 (by omega) (by omega)]
        · intro j hj
          rcases Nat.lt_succ_iff_lt_or_eq.1 hj with hj | rfl
          · exact hall j hj
          · intro lo' hi' hj'
            rw [hlh] at hj'
            cases hj'
            simp only [Bool.not_eq_false', Bool.and_eq_true, decide_eq_true_eq] at hv
            exact ⟨_, List.getElem?_eq_getElem hkl, hv.1, hv.2⟩
    · simp only [decide_eq_false_iff_not, Int.ofNat_lt, Nat.not_lt] at hk2
      refine hR _ _ ⟨?_, hb.trans (hw2.mono hb.size)⟩
      have h3 := spans_len _ _ hspans
      rw [w64 (by omega) (by omega), hl, (chr_iff x r sp hspans).1 (fun j hj => by rw [← hl]; exact hall j (by omega))]
      simp
end Go.Proofs.YtciepffocobgpaaGreatDoor
namespace Go.Proofs.YtciepffocobgpaaGreatDoor
open Go Go.Sx Go.RowKit
set_option linter.unusedSimpArgs false
theorem inR_len {l : Bytes} {i lo hi : Nat} (h : inR l i lo hi = true) : i < l.length := by
  obtain ⟨c, h1, _⟩ := (inR_ ..).1 h
  exact (List.getElem?_eq_some_iff.1 h1).1
theorem chr_le (l : Bytes) : chr l ≤ l.length := by
  cases l with
  | nil => simp [chr]
  | cons x r =>
    unfold chr
    simp only
    generalize (if x.toNat = 224 then 160 else 128) = a1
    generalize (if x.toNat = 237 then 159 else 191) = a2
    generalize (if x.toNat = 240 then 144 else 128) = a3
    generalize (if x.toNat = 244 then 143 else 191) = a4
    split
    · simp
    split
    · rename_i h; simp only [Bool.and_eq_true] at h; exact inR_len h.2
    split
    · rename_i h; simp only [Bool.and_eq_true] at h; exact inR_len h.2
    split
    · rename_i h; simp only [Bool.and_eq_true] at h; exact inR_len h.2
    omega
theorem wrongFrom_fuel : ∀ (f g : Nat) (l : Bytes) (i : Nat), l.length < f → l.length < g → wrongFrom f l i = wrongFrom g l i
  | 0, _, _, _, h, _ => by omega
  | _, 0, _, _, _, h => by omega
  | f + 1, g + 1, l, i, h1, h2 => by
    unfold wrongFrom
    split
    · rfl
    · split
      · rfl
      · rename_i hl hc
        have : 0 < l.length := List.length_pos_iff.2 hl
        exact wrongFrom_fuel f g _ _ (by rw [List.length_drop]; omega) (by rw [List.length_drop]; omega)
theorem drop_cons_of (l : Bytes) (k : Nat) (h : k < l.length) : ∃ x r, l.drop k = x :: r := ⟨_, _, List.drop_eq_getElem_cons h⟩
theorem toL_from (s : ByteArray) (k : Nat) : toL (s.extract k s.size) = (toL s).drop k := by rw [toL_extract, take_all s s.size (Nat.le_refl _)]
theorem Wrong_ (s : ByteArray) (hs : s.size ≤ 9223372036854775807) (w : World) : Calls Tryz.prog 39 #[.string s] w fun e w' => e = .returned (.int .i64 (wrong (toL s))) ∧ Below w.heap.size w w' := by
  refine calls_X Tryz.func39 rfl Tryz.ntmps39 Tryz.results39 rfl rfl (by kernel_rfl) fun R hR => ?_
  simp only [push_cast, Nat.reduceBEq, Nat.reduceLeDiff, Nat.reduceAdd]
  refine law_loop [(2, 18)] (fun n h w' => ∃ k : Nat, k ≤ s.size ∧ n = s.size - k ∧ h 3 = .int .i64 k ∧ wrong (toL s) = wrongFrom (s.size - k + 1) ((toL s).drop k) k ∧ Below w.heap.size w w') s.size ⟨0, by omega, by omega, rfl, by rw [wrong, toL_len]; rfl, Below.refl _ _⟩ ?_
  rintro n h w2 ⟨k, hk, hn, h3, hw, hb⟩ T hT
  simp only [push_cast, Nat.reduceBEq, Nat.reduceLeDiff, Nat.reduceAdd, h3]
  refine ⟨fun hc => ?_, fun hc => ?_⟩
  · simp only [decide_eq_true_eq, Int.ofNat_lt] at hc
    refine ⟨⟨by omega, by omega⟩, ?_⟩
    obtain ⟨x, r, hxr⟩ := drop_cons_of (toL s) k (by rw [toL_len]; exact hc)
    have hl : toL (s.extract k s.size) = x :: r := by rw [toL_from, hxr]
    refine (character _ x r hl w2).mono ?_
    rintro e w3 ⟨rfl, hb3⟩
    have hb' := hb.trans (hb3.mono hb.size)
    have hle := chr_le (x :: r)
    have hlr : (x :: r).length = s.size - k := by rw [← hxr, List.length_drop, toL_len]
    simp only [push_cast, Nat.reduceBEq, Nat.reduceLeDiff, Nat.reduceAdd, h3, hl]
    rw [hxr] at hw
    refine ⟨fun h0 => hR _ _ ⟨?_, hb'⟩, fun h0 => hT (s.size - (k + chr (x :: r))) _ _ (by simp only [push_cast, Nat.reduceBEq, Nat.reduceLeDiff]) ?_ ⟨k + chr (x :: r), by omega, rfl, ?_, ?_, hb'⟩⟩
    · simp only [decide_eq_true_eq] at h0
      rw [hw, wrongFrom, if_neg (by simp), if_pos (by omega)]
    · simp only [decide_eq_false_iff_not] at h0
      omega
    · simp only [push_cast, Nat.reduceBEq, Nat.reduceLeDiff, h3]; rw [w64 (by omega) (by omega)]
    · simp only [decide_eq_false_iff_not] at h0
      rw [hw, wrongFrom, if_neg (by simp), if_neg (by omega), ← List.drop_drop, hxr]
      exact wrongFrom_fuel _ _ _ _ (by rw [List.length_drop]; omega) (by rw [List.length_drop]; omega)
  · simp only [decide_eq_false_iff_not, Int.ofNat_lt, Nat.not_lt] at hc
    refine hR _ _ ⟨?_, hb⟩
    rw [hw, wrongFrom, if_pos (List.drop_eq_nil_of_le (by rw [toL_len]; exact hc))]
theorem Told_ (s : ByteArray) (hs : s.size ≤ 9223372036854775807) (w : World) : Calls Tryz.prog 18 #[.string s] w fun e w' => e = .returned (.bool (told (toL s))) ∧ Below w.heap.size w w' := by
  refine calls_X Tryz.func18 rfl Tryz.ntmps18 Tryz.results18 rfl rfl (by kernel_rfl) fun R hR => ?_
  simp only [push_cast, Nat.reduceBEq, Nat.reduceLeDiff, Nat.reduceAdd]
  refine (Wrong_ s hs w).mono ?_
  rintro e w2 ⟨rfl, hb⟩
  simp only [push_cast, Nat.reduceBEq, Nat.reduceLeDiff, Nat.reduceAdd]
  exact hR _ _ ⟨rfl, hb⟩
end Go.Proofs.YtciepffocobgpaaGreatDoor
namespace Go.Proofs.YtciepffocobgpaaGreatDoor
open Go Go.Sx Go.RowKit
set_option linter.unusedSimpArgs false
def hexL : Bytes := [48, 49, 50, 51, 52, 53, 54, 55, 56, 57, 65, 66, 67, 68, 69, 70]
theorem byte_all (p : UInt8 → Bool) (h : (List.range 256).all (fun n => p (UInt8.ofNat n)) = true) (c : UInt8) : p c = true := by
  have := List.all_eq_true.1 h c.toNat (by rw [List.mem_range]; exact c.toNat_lt)
  simpa using this
def upB (c : UInt8) : UInt8 := if 97 ≤ c.toNat ∧ c.toNat ≤ 102 then c - 32 else c
theorem hex_up (c : UInt8) : Lib.indexByte hexL (upB c) = hex c := by
  have := byte_all (fun c => Lib.indexByte hexL (upB c) == hex c) (by kernel_rfl) c
  simpa using this
theorem hex_range (c : UInt8) : -1 ≤ hex c ∧ hex c ≤ 15 := by
  have := byte_all (fun c => decide (-1 ≤ hex c ∧ hex c ≤ 15)) (by kernel_rfl) c
  simpa using this
theorem or16 (a b : Int) (h1 : 0 ≤ a) (h2 : a ≤ 15) (h3 : 0 ≤ b) (h4 : b ≤ 15) : IntKind.u8.wrap (bits .or .i64 (IntKind.i64.wrap (a * 2 ^ (4 : Int).toNat)) b) = ((UInt8.ofNat (16 * a + b).toNat).toNat : Int) := by
  have h : (List.range 16).all (fun x => (List.range 16).all fun y => IntKind.u8.wrap (bits .or .i64 (IntKind.i64.wrap ((x : Int) * 2 ^ (4 : Int).toNat)) (y : Int)) == ((UInt8.ofNat (16 * (x : Int) + (y : Int)).toNat).toNat : Int)) = true := by kernel_rfl
  have h' := List.all_eq_true.1 (List.all_eq_true.1 h a.toNat (List.mem_range.2 (by omega))) b.toNat (List.mem_range.2 (by omega))
  rw [beq_iff_eq, show ((a.toNat : Nat) : Int) = a from by omega, show ((b.toNat : Nat) : Int) = b from by omega] at h'
  exact h'
theorem digit_ (c : UInt8) (w : World) : Calls Tryz.prog 179 #[.int .u8 c.toNat] w fun e w' => e = .returned (.int .i64 (hex c)) ∧ Below w.heap.size w w' := by
  have hc := hex_up c
  have h256 := c.toNat_lt
  refine calls_X Tryz.func179 rfl Tryz.ntmps179 Tryz.results179 rfl rfl (by kernel_rfl) fun R hR => ?_
  simp only [push_cast, Nat.reduceBEq, Nat.reduceLeDiff, Nat.reduceAdd, bld143]
  refine (has_ _ _ _ _).mono ?_
  rintro e w2 ⟨rfl, hb⟩
  simp only [push_cast, Nat.reduceBEq, Nat.reduceLeDiff, Nat.reduceAdd]
  refine ⟨fun h => ?_, fun h => ?_⟩
  · refine (Tryz.strings_IndexByte _ _ _).mono ?_
    rintro e w' ⟨rfl, rfl⟩
    simp only [push_cast, Nat.reduceBEq, Nat.reduceLeDiff, Nat.reduceAdd]
    refine hR _ _ ⟨?_, hb⟩
    simp only [Bool.and_eq_true, decide_eq_true_eq] at h
    rw [show IntKind.u8.wrap ((c.toNat : Int) - 32) = (c.toNat : Int) - 32 from IntWalk.u8_in _ ⟨by omega, by omega⟩]
    rw [← hc, upB, if_pos ⟨by omega, by omega⟩]
    rw [show ((c.toNat : Int) - 32).toNat.toUInt8 = c - 32 from by
      apply UInt8.toNat_inj.1
      rw [UInt8.toNat_sub_of_le _ _ (by rw [UInt8.le_iff_toNat_le]; show 32 ≤ _; omega)]
      show ((c.toNat : Int) - 32).toNat % 256 = c.toNat - 32
      omega]
    rfl
  · refine (Tryz.strings_IndexByte _ _ _).mono ?_
    rintro e w' ⟨rfl, rfl⟩
    simp only [push_cast, Nat.reduceBEq, Nat.reduceLeDiff, Nat.reduceAdd]
    refine hR _ _ ⟨?_, hb⟩
    simp only [Bool.and_eq_false_iff, decide_eq_false_iff_not] at h
    rw [← hc, upB, if_neg (by omega), show c.toNat.toUInt8 = c from by simp]; rfl
def pairB (l : Bytes) : Option UInt8 := match l with | a :: b :: _ => if hex a < 0 ∨ hex b < 0 then none else some (UInt8.ofNat (16 * hex a + hex b).toNat) | _ => none
def pairV (o : Option UInt8) : Value := match o with | some c => .tuple #[.int .u8 c.toNat, .bool true] | none => .tuple #[.int .u8 0, .bool false]
theorem pair_ (s : ByteArray) (w : World) : Calls Tryz.prog 176 #[.string s] w fun e w' => e = .returned (pairV (pairB (toL s))) ∧ Below w.heap.size w w' := by
  refine calls_X Tryz.func176 rfl Tryz.ntmps176 Tryz.results176 rfl rfl (by kernel_rfl) fun R hR => ?_
  simp only [push_cast, Nat.reduceBEq, Nat.reduceLeDiff, Nat.reduceAdd]
  refine ⟨fun h => ?_, fun h => ?_⟩
  · refine hR _ _ ⟨?_, Below.refl _ _⟩
    simp only [decide_eq_true_eq] at h
    have := toL_len s
    rcases hh : toL s with _ | ⟨a, _ | ⟨b, r⟩⟩
    · rfl
    · rfl
    · rw [hh] at this; simp at this; omega
  · simp only [decide_eq_false_iff_not, Int.not_lt] at h
    refine law_quiet (C := Below w.heap.size w) (by kernel_rfl) (by kernel_rfl) (Below.refl _ _).drew ?_
    obtain ⟨a, b, r, hl⟩ : ∃ a b r, toL s = a :: b :: r := by
      have := toL_len s
      rcases hh : toL s with _ | ⟨a, _ | ⟨b, r⟩⟩
      · rw [hh] at this; simp at this; omega
      · rw [hh] at this; simp at this; omega
      · exact ⟨a, b, r, rfl⟩
    have ha : bt s 0 = a.toNat := by
      rw [show (0 : Int) = ((0 : Nat) : Int) from rfl, bt_get s 0 (by rw [hl]; simp)]; simp [hl]
    have hb : bt s 1 = b.toNat := by
      rw [show (1 : Int) = ((1 : Nat) : Int) from rfl, bt_get s 1 (by rw [hl]; simp)]; simp [hl]
    simp only [push_cast, Nat.reduceBEq, Nat.reduceLeDiff, Nat.reduceAdd]
    refine ⟨by omega, ?_⟩
    rw [ha]
    refine callQ_of (fun w => digit_ _ w) (Nat.le_refl _) ?_
    simp only [push_cast, Nat.reduceBEq, Nat.reduceLeDiff, Nat.reduceAdd]
    refine ⟨by omega, ?_⟩
    rw [hb]
    refine callQ_of (fun w => digit_ _ w) (Nat.le_refl _) ?_
    simp only [push_cast, Nat.reduceBEq, Nat.reduceLeDiff, Nat.reduceAdd]
    intro w2 hw2
    refine ⟨fun h0 => hR _ _ ⟨?_, hw2⟩, fun h0 => ?_⟩
    · simp only [Bool.or_eq_true, decide_eq_true_eq] at h0
      rw [hl, pairB, if_pos h0]; rfl
    · have ra := hex_range a
      have rb := hex_range b
      simp only [Bool.or_eq_false_iff, decide_eq_false_iff_not] at h0
      simp only [push_cast, Nat.reduceBEq, Nat.reduceLeDiff, Nat.reduceAdd, shift_shl .i64 .u64 _ 4 (by decide) (by decide)]
      refine hR _ _ ⟨?_, hw2⟩
      rw [hl, pairB, if_neg (by omega), or16 _ _ (by omega) (by omega) (by omega) (by omega)]; rfl
end Go.Proofs.YtciepffocobgpaaGreatDoor
namespace Go.Proofs.YtciepffocobgpaaGreatDoor
open Go Go.Sx Go.RowKit
set_option linter.unusedSimpArgs false
theorem heap_below {w w' : World} (hb : Below w.heap.size w w') {k : Nat} {o : Obj} (h : w.heap[k]? = some o) : w'.heap[k]? = some o := by
  rw [hb.block k (Array.getElem?_eq_some_iff.1 h).1]; exact h
theorem own_below {w w' : World} {B e size n : Nat} {v : Value} {xs : List Value} (h : w.ownsRow B e size v n xs) (hb : Below w.heap.size w w') : w'.ownsRow B e size v n xs := by
  refine ⟨h.1, ?_⟩
  rcases h.2 with hn | ⟨g, cap, cur, hv, hB, hg, rest⟩
  · exact .inl hn
  · exact .inr ⟨g, cap, cur, hv, hB, heap_below hb hg, rest⟩
theorem builderAt_below {T e : TypeId} {B b : Nat} {p : Value} {bs : List Value} {w w' : World} (h : Lib.BuilderAt T e B b p bs w) (hb : Below w.heap.size w w') : Lib.BuilderAt T e B b p bs w' := by
  obtain ⟨hB, v, h1, h2, h3⟩ := h
  exact ⟨hB, v, heap_below hb h1, own_below h2 hb, h3⟩
theorem isBuilder_below {T e : TypeId} {B b : Nat} {bs : List Value} {w w' : World} (h : Lib.IsBuilder T e B b bs w) (hb : Below w.heap.size w w') : Lib.IsBuilder T e B b bs w' := by
  rcases h with h | h
  · exact .inl (builderAt_below h hb)
  · exact .inr (builderAt_below h hb)
theorem builderF_below {T e : TypeId} {B b : Nat} {bs : List Value} {w w' : World} (h : Lib.IsBuilderF T e B b bs w) (hb : Below w.heap.size w w') : Lib.IsBuilderF T e B b bs w' := by
  have key : ∀ p, Lib.BuilderAtF T e B b p bs w → Lib.BuilderAtF T e B b p bs w' := by
    rintro p ⟨hB, v, h1, h2, h3⟩
    refine ⟨hB, v, heap_below hb h1, ⟨h2.1, ?_⟩, h3⟩
    rcases h2.2 with hn | ⟨g, cap, cur, fz, hv, hB, hg, rest⟩
    · exact .inl hn
    · exact .inr ⟨g, cap, cur, fz, hv, hB, heap_below hb hg, rest⟩
  exact h.elim (fun x => .inl (key _ x)) (fun x => .inr (key _ x))
theorem unesc_fuel : ∀ (f g : Nat) (l : Bytes), l.length ≤ f → l.length ≤ g → unesc f l = unesc g l
  | 0, g, l, h, _ => by
    have : l = [] := List.length_eq_zero_iff.1 (by omega)
    subst this
    cases g <;> rfl
  | f + 1, 0, l, _, h => by
    have : l = [] := List.length_eq_zero_iff.1 (by omega)
    subst this; rfl
  | f + 1, g + 1, [], _, _ => rfl
  | f + 1, g + 1, c :: r, h1, h2 => by
    simp only [List.length_cons] at h1 h2
    unfold unesc
    rw [unesc_fuel f g r (by omega) (by omega)]
    split
    · rfl
    split
    · split
      · rename_i a b r' 
        simp only [List.length_cons] at h1 h2
        rw [unesc_fuel f g r' (by omega) (by omega)]
      · rfl
    · rfl
theorem unesc_cons (f : Nat) (c : UInt8) (r : Bytes) : unesc (f + 1) (c :: r) =
    if c = 43 then (unesc f r).map (32 :: ·) else if c = 37 then (match pairB r with | none => none | some x => (unesc f (r.drop 2)).map (x :: ·))
    else if c.toNat < 33 ∨ 126 < c.toNat ∨ c = 38 ∨ c = 61 then none else (unesc f r).map (c :: ·) := by
  conv => lhs; unfold unesc
  congr 1
  congr 1
  unfold pairB
  split
  · simp only
    split <;> simp_all
  · simp_all
theorem unesc_nil (f : Nat) : unesc f [] = some [] := by cases f <;> rfl
theorem map_app (out : Bytes) (x : UInt8) (o : Option Bytes) : Option.map (fun y => out ++ y) (o.map (x :: ·)) = o.map (fun y => (out ++ [x]) ++ y) := by
  cases o <;> simp
theorem bc_len (l : Bytes) : (Lib.byteCells l).length = l.length := by simp [Lib.byteCells]
theorem bc_put {B b : Nat} {p : Value} {out : Bytes} {c : UInt8} {w : World} (h : Lib.BuilderAt 105 5 B b p (Lib.byteCells out ++ [.int .u8 c.toNat]) w) : Lib.BuilderAt 105 5 B b p (Lib.byteCells (out ++ [c])) w := by
  rw [show Lib.byteCells (out ++ [c]) = Lib.byteCells out ++ [.int .u8 c.toNat] from by simp [Lib.byteCells]]; exact h
def uv (o : Except Int Bytes) : Value := match o with | .ok s => .tuple #[.string (mkS s), .int .i64 0] | .error e => .tuple #[.string ⟨#[]⟩, .int .i64 e]
set_option maxHeartbeats 1000000 in
theorem Unescape_ (s : ByteArray) (hs : s.size ≤ 140737488355328) (w : World) : Calls Tryz.prog 167 #[.string s] w fun e w' => e = .returned (uv (unescape (toL s))) ∧ Below w.heap.size w w' := by
  refine calls_X Tryz.func167 rfl Tryz.ntmps167 Tryz.results167 rfl rfl (by kernel_rfl) fun R hR => ?_
  simp only [push_cast, Nat.reduceBEq, Nat.reduceLeDiff, Nat.reduceAdd]
  refine law_loop [(2, 3), (5, 53)] (fun n h w' => ∃ (k : Nat) (out : Bytes), k ≤ s.size ∧ n = s.size - k ∧ h 5 = .int .i64 k ∧ out.length ≤ k ∧ unesc (toL s).length (toL s) = (unesc (s.size - k) ((toL s).drop k)).map (out ++ ·) ∧ Lib.IsBuilder 105 5 w.heap.size w.heap.size (Lib.byteCells out) w' ∧ Below w.heap.size w w') s.size ⟨0, [], by omega, by omega, rfl, by simp, ?_, ?_, al_below _ _⟩ ?_
  · rw [toL_len]; cases h : unesc s.size (toL s) <;> simp [h]
  · have := Lib.fresh_isBuilder 105 5 w
    rw [al_alloc] at this
    exact this
  rintro n h w2 ⟨k, out, hk, hn, h5, ho, hu, hB, hb⟩ T hT
  simp only [push_cast, Nat.reduceBEq, Nat.reduceLeDiff, Nat.reduceAdd, h5]
  refine ⟨fun hc => ?_, fun hc => ?_⟩
  · simp only [decide_eq_true_eq, Int.ofNat_lt] at hc
    have hkl : k < (toL s).length := by rw [toL_len]; exact hc
    rw [bt_get s k hkl]
    have hdrop := List.drop_eq_getElem_cons hkl
    generalize (toL s)[k] = c at hdrop
    refine ⟨⟨by omega, by omega⟩, ?_⟩
    have hf : s.size - k = (s.size - (k + 1)) + 1 := by omega
    have hsz := hb.size
    have e43 : ((c.toNat : Int) = 43) ↔ c = 43 := u8_eq c 43
    have e37 : ((c.toNat : Int) = 37) ↔ c = 37 := u8_eq c 37
    have e38 : ((c.toNat : Int) = 38) ↔ c = 38 := u8_eq c 38
    have e61 : ((c.toNat : Int) = 61) ↔ c = 61 := u8_eq c 61
    rw [hf, hdrop] at hu
    refine ⟨fun h1 => ?_, fun h1 => ⟨fun h2 => ?_, fun h2 => ⟨fun h3 => hR _ _ ⟨?_, hb⟩, fun h3 => ?_⟩⟩⟩
    · simp only [decide_eq_true_eq, e43] at h1
      refine (writeByte w.heap.size w.heap.size (Lib.byteCells out) 32 w2 hB (by rw [bc_len]; omega) (by omega)).mono ?_
      rintro e w4 ⟨rfl, hB4, hb4⟩
      simp only [push_cast, Nat.reduceBEq, Nat.reduceLeDiff, Nat.reduceAdd, h5]
      refine hT (s.size - (k + 1)) _ _ (by simp only [push_cast, Nat.reduceBEq, Nat.reduceLeDiff]) (by omega) ⟨k + 1, out ++ [32], by omega, rfl, ?_, by simp; omega, ?_, .inr (bc_put (c := 32) hB4), hb.trans hb4⟩
      · simp only [push_cast, Nat.reduceBEq, Nat.reduceLeDiff]; rw [w64 (by omega) (by omega)]
      · rw [hu, unesc_cons, if_pos h1, map_app]
    · simp only [decide_eq_false_iff_not, e43] at h1
      simp only [decide_eq_true_eq, e37] at h2
      refine ⟨by rw [w64 (by omega) (by omega)]; omega, (pair_ _ _).mono ?_⟩
      rintro e w3 ⟨rfl, hb3⟩
      have hx : toL (s.extract (IntKind.i64.wrap ((k : Int) + 1)).toNat s.size) = List.drop (k + 1) (toL s) := by
        rw [w64 (by omega) (by omega), show ((k : Int) + 1).toNat = k + 1 from by omega, toL_from]
      rw [hx]
      generalize hd : List.drop (k + 1) (toL s) = r at hu hdrop
      have hrl : r.length = s.size - (k + 1) := by rw [← hd, List.length_drop, toL_len]
      cases hp : pairB r with
      | none =>
        simp only [push_cast, Nat.reduceBEq, Nat.reduceLeDiff, Nat.reduceAdd, pairV, h5]
        refine hR _ _ ⟨?_, hb.trans (hb3.mono hsz)⟩
        rw [unescape, hu, unesc_cons, if_neg h1, if_pos h2, hp]; rfl
      | some x =>
        simp only [push_cast, Nat.reduceBEq, Nat.reduceLeDiff, Nat.reduceAdd, pairV, h5]
        have hr2 : 2 ≤ r.length := by
          unfold pairB at hp
          split at hp
          · simp
          · cases hp
        refine (writeByte w.heap.size w.heap.size (Lib.byteCells out) x.toNat w3 (isBuilder_below hB hb3) (by rw [bc_len]; omega) (by have := hb3.size; omega)).mono ?_
        rintro e w4 ⟨rfl, hB4, hb4⟩
        simp only [push_cast, Nat.reduceBEq, Nat.reduceLeDiff, Nat.reduceAdd, h5]
        refine hT (s.size - (k + 3)) _ _ (by simp only [push_cast, Nat.reduceBEq, Nat.reduceLeDiff]) (by omega) ⟨k + 3, out ++ [x], by omega, rfl, ?_, by simp; omega, ?_, .inr (bc_put hB4), (hb.trans (hb3.mono hsz)).trans hb4⟩
        · simp only [push_cast, Nat.reduceBEq, Nat.reduceLeDiff]; rw [w64 (n := (k : Int) + 2) (by omega) (by omega), w64 (by omega) (by omega)]; congr 1 <;> omega
        · have hd3 : List.drop (k + 3) (toL s) = r.drop 2 := by rw [show k + 3 = (k + 1) + 2 from rfl, ← List.drop_drop, hd]
          rw [hu, unesc_cons, if_neg h1, if_pos h2, hp, hd3, unesc_fuel (s.size - (k + 1)) (s.size - (k + 3)) (r.drop 2) (by rw [List.length_drop]; omega) (by rw [List.length_drop]; omega)]
          exact map_app _ _ _
    · simp only [decide_eq_false_iff_not, e43] at h1
      simp only [decide_eq_false_iff_not, e37] at h2
      simp only [Bool.or_eq_true, decide_eq_true_eq, e38, e61] at h3
      rw [unescape, hu, unesc_cons, if_neg h1, if_neg h2, if_pos (by rcases h3 with ((h3 | h3) | h3) | h3 <;> first | (exact .inl (by omega)) | (exact .inr (.inl (by omega))) | exact .inr (.inr (.inl h3)) | exact .inr (.inr (.inr h3)))]; rfl
    · simp only [decide_eq_false_iff_not, e43] at h1
      simp only [decide_eq_false_iff_not, e37] at h2
      simp only [Bool.or_eq_false_iff, decide_eq_false_iff_not, e38, e61] at h3
      refine (writeByte w.heap.size w.heap.size (Lib.byteCells out) c.toNat w2 hB (by rw [bc_len]; omega) (by omega)).mono ?_
      rintro e w4 ⟨rfl, hB4, hb4⟩
      simp only [push_cast, Nat.reduceBEq, Nat.reduceLeDiff, Nat.reduceAdd, h5]
      refine hT (s.size - (k + 1)) _ _ (by simp only [push_cast, Nat.reduceBEq, Nat.reduceLeDiff]) (by omega) ⟨k + 1, out ++ [c], by omega, rfl, ?_, by simp; omega, ?_, .inr (bc_put hB4), hb.trans hb4⟩
      · simp only [push_cast, Nat.reduceBEq, Nat.reduceLeDiff]; rw [w64 (by omega) (by omega)]
      · rw [hu, unesc_cons, if_neg h1, if_neg h2, if_neg (by rintro (h | h | h | h) <;> first | omega | exact h3.1.2 h | exact h3.2 h), map_app]
  · simp only [decide_eq_false_iff_not, Int.ofNat_lt, Nat.not_lt] at hc
    have hsz := hb.size
    have hk0 : k = s.size := by omega
    rw [hk0, Nat.sub_self, ← toL_len s, List.drop_length, unesc_nil] at hu
    have ho2 : (mkS out).size ≤ 9223372036854775807 := by rw [size_mkS]; omega
    refine (Tryz.Builder_String_any_f w.heap.size w.heap.size out w2 (Lib.IsBuilderF.of hB) (by omega)).mono ?_
    rintro e w3 ⟨rfl, hB3, hb3⟩
    have hu2 : unesc (toL s).length (toL s) = some out := by rw [hu]; simp
    simp only [push_cast, Nat.reduceBEq, Nat.reduceLeDiff, Nat.reduceAdd]
    refine (Told_ (mkS out) ho2 w3).mono ?_
    rintro e w4 ⟨rfl, hb4⟩
    have hb04 : Below w.heap.size w2 w4 := hb3.trans (hb4.mono (by have := hb3.size; omega))
    simp only [push_cast, Nat.reduceBEq, Nat.reduceLeDiff, Nat.reduceAdd, toL_mkS]
    refine ⟨fun ht => hR _ _ ⟨?_, hb.trans hb04⟩, fun ht => ?_⟩
    · simp only [Bool.not_eq_true'] at ht
      simp only [unescape, hu2, ht, uv, Bool.false_eq_true, if_false]
    · simp only [Bool.not_eq_false'] at ht
      refine (Tryz.Builder_String_any_f w.heap.size w.heap.size out w4 (builderF_below hB3 hb4) (by have := hb04.size; omega)).mono ?_
      rintro e w5 ⟨rfl, _, hb5⟩
      simp only [push_cast, Nat.reduceBEq, Nat.reduceLeDiff, Nat.reduceAdd]
      refine hR _ _ ⟨?_, hb.trans (hb04.trans hb5)⟩
      simp only [unescape, hu2, ht, uv, if_true, mkS]
end Go.Proofs.YtciepffocobgpaaGreatDoor
namespace Go.Proofs.YtciepffocobgpaaGreatDoor
open Go Go.Sx Go.RowKit
set_option linter.unusedSimpArgs false
/-- A slice of structs of two strings. -/
def PairsAt (w : World) (v : Value) (ps : List Pr) : Prop :=
  (∃ c, v = .slice none 0 c ∧ ps = []) ∨ ∃ b o c, v = .slice (some ⟨b, o, none⟩) ps.length c ∧ b < w.heap.size ∧ ∀ j p, ps[j]? = some p → w.cell? ⟨b, o + j * 2, none⟩ = some (.string (mkS p.1)) ∧ w.cell? ⟨b, o + j * 2 + 1, none⟩ = some (.string (mkS p.2))
theorem pairsAt_below {w w' : World} {v : Value} {ps : List Pr} (h : PairsAt w v ps) (hb : Below w.heap.size w w') : PairsAt w' v ps := by
  rcases h with h | ⟨b, o, c, h1, h2, h3⟩
  · exact .inl h
  · exact .inr ⟨b, o, c, h1, Nat.lt_of_lt_of_le h2 hb.size, fun j p hj => ⟨(hb.cell (p := ⟨b, _, none⟩) h2).trans (h3 j p hj).1, (hb.cell (p := ⟨b, _, none⟩) h2).trans (h3 j p hj).2⟩⟩
theorem pairsAt_shape {w : World} {v : Value} {ps : List Pr} (h : PairsAt w v ps) : ∃ A c, v = .slice A ps.length c ∧ (∀ j p, ps[j]? = some p → ∃ b o, A = some ⟨b, o, none⟩ ∧ b < w.heap.size ∧ w.cell? ⟨b, o + j * 2, none⟩ = some (.string (mkS p.1)) ∧ w.cell? ⟨b, o + j * 2 + 1, none⟩ = some (.string (mkS p.2))) := by
  rcases h with ⟨c, h1, h2⟩ | ⟨b, o, c, h1, h2, h3⟩
  · subst h2
    exact ⟨none, c, h1, fun j p hj => by simp at hj⟩
  · exact ⟨_, c, h1, fun j p hj => ⟨b, o, rfl, h2, h3 j p hj⟩⟩

def gvP (o : Option Bytes) : Value := match o with | some v => .tuple #[.string (mkS v), .bool true] | none => .tuple #[.string ⟨#[]⟩, .bool false]
theorem mkS_inj {a b : Bytes} (h : mkS a = mkS b) : a = b := by rw [← toL_mkS a, h, toL_mkS]
theorem mkS_eq (a : Bytes) (s : ByteArray) : mkS a = s ↔ a = toL s := ⟨fun h => by rw [← h, toL_mkS], fun h => by rw [h, mkS_toL]⟩
theorem Get_ (v : Value) (ps : List Pr) (s : ByteArray) (w : World) (hv : PairsAt w v ps) (hl : ps.length ≤ 140737488355328) :
    Calls Tryz.prog 145 #[v, .string s] w fun e w' => e = .returned (gvP (getP ps (toL s))) ∧ Below w.heap.size w w' := by
  obtain ⟨A, c, rfl, hcells⟩ := pairsAt_shape hv
  refine calls_X Tryz.func145 rfl Tryz.ntmps145 Tryz.results145 rfl rfl (by kernel_rfl) fun R hR => ?_
  simp only [push_cast, Nat.reduceBEq, Nat.reduceLeDiff, Nat.reduceAdd]
  refine law_loop [(4, 5), (7, 7), (10, 20)] (fun n h w' => ∃ k : Nat, k ≤ ps.length ∧ n = ps.length - k ∧ h 10 = .int .i64 k ∧ getP ps (toL s) = getP (ps.drop k) (toL s) ∧ Below w.heap.size w w') ps.length ⟨0, by omega, by omega, rfl, rfl, Below.refl _ _⟩ ?_
  rintro n h w2 ⟨k, hk, hn, h10, hg, hb⟩ T hT
  simp only [push_cast, Nat.reduceBEq, Nat.reduceLeDiff, Nat.reduceAdd, h10]
  refine ⟨fun hc => ?_, fun hc => ?_⟩
  · simp only [decide_eq_true_eq, Int.ofNat_lt] at hc
    obtain ⟨b, o, rfl, hb1, c1, c2⟩ := hcells k _ (List.getElem?_eq_getElem hc)
    have hd := List.drop_eq_getElem_cons hc
    generalize ps[k] = p at c1 c2 hd
    rw [← hb.cell (p := ⟨b, _, none⟩) hb1] at c1 c2
    simp only [push_cast, Nat.reduceBEq, Nat.reduceLeDiff, Nat.reduceAdd, c1, c2, h10, mkS_eq]
    refine ⟨⟨by omega, by omega⟩, fun he => hR _ _ ⟨?_, hb.trans ((al_below _ _).mono hb.size)⟩, fun he => hT (ps.length - (k + 1)) _ _ (by simp only [push_cast, Nat.reduceBEq, Nat.reduceLeDiff]) (by omega) ⟨k + 1, by omega, rfl, ?_, ?_, hb.trans ((al_below _ _).mono hb.size)⟩⟩
    · simp only [decide_eq_true_eq] at he
      rw [hg, hd, getP, List.find?_cons_of_pos (by simpa using he)]; rfl
    · simp only [push_cast, Nat.reduceBEq, Nat.reduceLeDiff]; rw [w64 (by omega) (by omega)]
    · simp only [decide_eq_false_iff_not] at he
      rw [hg, hd, getP, List.find?_cons_of_neg (by simpa using he)]; rfl
  · simp only [decide_eq_false_iff_not, Int.ofNat_lt, Nat.not_lt] at hc
    refine hR _ _ ⟨?_, hb⟩
    rw [hg, List.drop_eq_nil_of_le hc]; rfl
def pv (o : Except Int Pr) : Value := match o with | .ok p => .tuple #[.agg #[.string (mkS p.1), .string (mkS p.2)], .int .i64 0] | .error e => .tuple #[.agg #[.string ⟨#[]⟩, .string ⟨#[]⟩], .int .i64 e]
theorem bld41_0 (w : World) : Sem.run Tryz.prog (Instr.build 41 #[]) w = .ok (.agg #[.string ⟨#[]⟩, .string ⟨#[]⟩]) w := by kernel_rfl
theorem bld41_2 (a b : ByteArray) (w : World) : Sem.run Tryz.prog (Instr.build 41 #[(0, .string a), (1, .string b)]) w = .ok (.agg #[.string a, .string b]) w := by kernel_rfl
theorem unesc_err {l : Bytes} {e : Int} (h : unescape l = .error e) : e = 30 ∨ e = 31 := by
  unfold unescape at h
  split at h
  · cases h; exact .inr rfl
  · split at h
    · cases h
    · cases h; exact .inl rfl
theorem drewN_below (w : World) : ∀ n, Below w.heap.size w (w.drewN n)
  | 0 => Below.refl _ _
  | n + 1 => (drewN_below w n).drew
theorem one_ (s : ByteArray) (m : Int) (hs : s.size < 4294967281) (w : World) (h0 : 0 < w.heap.size) (hm : w.cell? ⟨0, 0, none⟩ = some (.int .i64 m)) :
    Calls Tryz.prog 144 #[.string s] w fun e w' => e = .returned (pv (one (toL s))) ∧ Below w.heap.size w w' := by
  refine calls_X Tryz.func144 rfl Tryz.ntmps144 Tryz.results144 rfl rfl (by kernel_rfl) fun R hR => ?_
  simp only [push_cast, Nat.reduceBEq, Nat.reduceLeDiff, Nat.reduceAdd, bld41_0, bld41_2]
  refine (Tryz.strings_Cut s _ m _ hs (by rw [al_cell_old _ _ _ h0]; exact hm)).mono ?_
  rintro e w1 ⟨rfl, n, hw1⟩
  have hb1 : Below (w.heap.size + 1) (al w [([Value.string ⟨#[]⟩, Value.string ⟨#[]⟩], 41)]) w1 := by rw [hw1]; exact (drewN_below _ n).mono (by simp [al_size])
  clear hw1
  have hb : Below w.heap.size w w1 := (al_below _ _).trans (hb1.mono (by omega))
  have hs1 : w.heap.size + 1 ≤ w1.heap.size := by have := hb1.size; simpa [al_size] using this
  obtain ⟨c0, f0⟩ := new_cell hb1 (by omega) 0
  obtain ⟨c1, f1⟩ := new_cell hb1 (by omega) 1
  simp only [List.getElem?_cons_zero, List.getElem?_cons_succ] at c0 c1
  rw [show (⟨#[61]⟩ : ByteArray).data.toList = [61] from rfl, show s.data.toList = toL s from rfl, cut_one]
  cases hc : cut1 61 (toL s) with
  | none =>
    simp only [push_cast, Nat.reduceBEq, Nat.reduceLeDiff, Nat.reduceAdd, bld41_0, bld41_2, c0, c1, f0, f1]
    exact hR _ _ ⟨by rw [one, hc]; rfl, (hb.setCell (p := ⟨w.heap.size, 0, none⟩) (Nat.le_refl _) _).setCell (p := ⟨w.heap.size, 1, none⟩) (Nat.le_refl _) _⟩
  | some ab =>
    obtain ⟨a, b⟩ := ab
    have hab := cut1_len hc
    rw [toL_len] at hab
    simp only [push_cast, Nat.reduceBEq, Nat.reduceLeDiff, Nat.reduceAdd, bld41_0, bld41_2, c0, c1, f0, f1]
    refine (Tryz.strings_Contains_one _ 61 _).mono ?_
    rintro e w' ⟨rfl, rfl⟩
    simp only [push_cast, Nat.reduceBEq, Nat.reduceLeDiff, Nat.reduceAdd, bld41_0, bld41_2, c0, c1, f0, f1, ← Lib.contains_iff_indexByte]
    have e0 : one (toL s) = if b.contains 61 then .error 31 else match unescape a with
      | .error e => .error e
      | .ok n => match unescape b with
        | .error e => .error e
        | .ok v => if n = [] then .error 10 else .ok (n, v) := by rw [one, hc] <;> rfl
    refine ⟨fun h1 => hR _ _ ⟨by rw [e0, if_pos h1]; rfl, (hb.setCell (p := ⟨w.heap.size, 0, none⟩) (Nat.le_refl _) _).setCell (p := ⟨w.heap.size, 1, none⟩) (Nat.le_refl _) _⟩, fun h1 => ?_⟩
    rw [if_neg (by rw [h1]; decide)] at e0
    refine (Unescape_ (mkS a) (by rw [size_mkS]; omega) w').mono ?_
    rintro e w2 ⟨rfl, hb2⟩
    rw [toL_mkS]
    replace c0 := (hb2.cell (p := ⟨w.heap.size, 0, none⟩) hs1).trans c0
    replace c1 := (hb2.cell (p := ⟨w.heap.size, 1, none⟩) hs1).trans c1
    replace f0 := (hb2.frozen (p := ⟨w.heap.size, 0, none⟩) hs1).trans f0
    replace f1 := (hb2.frozen (p := ⟨w.heap.size, 1, none⟩) hs1).trans f1
    have hs2 : w.heap.size + 1 ≤ w2.heap.size := Nat.le_trans hs1 hb2.size
    replace hb2 : Below w.heap.size w w2 := hb.trans (hb2.mono hb.size)
    cases hu : unescape a with
    | error er =>
      rw [hu] at e0
      have hne : (decide (er ≠ 0)) = true := by rcases unesc_err hu with rfl | rfl <;> rfl
      simp only [push_cast, Nat.reduceBEq, Nat.reduceLeDiff, Nat.reduceAdd, Int.reduceNe, decide_true, decide_false, bld41_0, bld41_2, c0, c1, f0, f1, uv, hne]
      exact hR _ _ ⟨by rw [e0]; rfl, (hb2.setCell (p := ⟨w.heap.size, 0, none⟩) (Nat.le_refl _) _).setCell (p := ⟨w.heap.size, 1, none⟩) (Nat.le_refl _) _⟩
    | ok na =>
      rw [hu] at e0
      simp only [push_cast, Nat.reduceBEq, Nat.reduceLeDiff, Nat.reduceAdd, Int.reduceNe, decide_true, decide_false, bld41_0, bld41_2, c0, c1, f0, f1, uv]
      refine (Unescape_ (mkS b) (by rw [size_mkS]; omega) w2).mono ?_
      rintro e w3 ⟨rfl, hb3⟩
      rw [toL_mkS]
      replace c0 := (hb3.cell (p := ⟨w.heap.size, 0, none⟩) hs2).trans c0
      replace c1 := (hb3.cell (p := ⟨w.heap.size, 1, none⟩) hs2).trans c1
      replace f0 := (hb3.frozen (p := ⟨w.heap.size, 0, none⟩) hs2).trans f0
      replace f1 := (hb3.frozen (p := ⟨w.heap.size, 1, none⟩) hs2).trans f1
      replace hb3 : Below w.heap.size w w3 := hb2.trans (hb3.mono hb2.size)
      cases hu2 : unescape b with
      | error er =>
        rw [hu2] at e0
        have hne : (decide (er ≠ 0)) = true := by rcases unesc_err hu2 with rfl | rfl <;> rfl
        simp only [push_cast, Nat.reduceBEq, Nat.reduceLeDiff, Nat.reduceAdd, Int.reduceNe, decide_true, decide_false, bld41_0, bld41_2, c0, c1, f0, f1, uv, hne]
        exact hR _ _ ⟨by rw [e0]; rfl, (hb3.setCell (p := ⟨w.heap.size, 0, none⟩) (Nat.le_refl _) _).setCell (p := ⟨w.heap.size, 1, none⟩) (Nat.le_refl _) _⟩
      | ok nb =>
        rw [hu2] at e0
        simp only [push_cast, Nat.reduceBEq, Nat.reduceLeDiff, Nat.reduceAdd, Int.reduceNe, decide_true, decide_false, bld41_0, bld41_2, c0, c1, f0, f1, uv, mkS_eq, toL_empty]
        refine ⟨fun h2 => hR _ _ ⟨?_, (hb3.setCell (p := ⟨w.heap.size, 0, none⟩) (Nat.le_refl _) _).setCell (p := ⟨w.heap.size, 1, none⟩) (Nat.le_refl _) _⟩, fun h2 => hR _ _ ⟨?_, (hb3.setCell (p := ⟨w.heap.size, 0, none⟩) (Nat.le_refl _) _).setCell (p := ⟨w.heap.size, 1, none⟩) (Nat.le_refl _) _⟩⟩
        · simp only [decide_eq_true_eq] at h2
          rw [e0]; simp only [h2, if_true]; rfl
        · simp only [decide_eq_false_iff_not] at h2
          rw [e0]; simp only [h2, if_false]; rfl
end Go.Proofs.YtciepffocobgpaaGreatDoor
namespace Go.Proofs.YtciepffocobgpaaGreatDoor
open Go Go.Sx Go.RowKit
set_option linter.unusedSimpArgs false
def pairCells (ps : List Pr) : List Value := ps.flatMap fun p => [.string (mkS p.1), .string (mkS p.2)]
theorem pairCells_len (ps : List Pr) : (pairCells ps).length = ps.length * 2 := by
  induction ps with
  | nil => rfl
  | cons p ps ih => simp only [pairCells, List.flatMap_cons, List.length_append, List.length_cons, List.length_nil] at ih ⊢; omega
theorem pairCells_get : ∀ (ps : List Pr) (j : Nat) (p : Pr), ps[j]? = some p → (pairCells ps)[j * 2]? = some (.string (mkS p.1)) ∧ (pairCells ps)[j * 2 + 1]? = some (.string (mkS p.2))
  | [], j, p, h => by simp at h
  | q :: ps, 0, p, h => by simp at h; subst h; exact ⟨rfl, rfl⟩
  | q :: ps, j + 1, p, h => by
    have := pairCells_get ps j p (by simpa using h)
    rw [show (j + 1) * 2 = j * 2 + 2 from by omega]
    exact this
theorem pairCells_append (ps : List Pr) (p : Pr) : pairCells (ps ++ [p]) = pairCells ps ++ [.string (mkS p.1), .string (mkS p.2)] := by simp [pairCells]
theorem pairs_of_own {w : World} {B : Nat} {T : TypeId} {v : Value} {ps : List Pr} (h : w.ownsRow B T 2 v ps.length (pairCells ps)) : PairsAt w v ps := by
  rcases h.2 with ⟨rfl, h2⟩ | ⟨g, cap, cur, rfl, h1, h2, h3, h4, h5, h6⟩
  · exact .inl ⟨0, rfl, List.length_eq_zero_iff.1 h2⟩
  · refine .inr ⟨g, 0, cap, rfl, (Array.getElem?_eq_some_iff.1 h2).1, fun j p hj => ?_⟩
    have hlt := (List.getElem?_eq_some_iff.1 hj).1
    obtain ⟨g1, g2⟩ := pairCells_get ps j p hj
    rw [← h6] at g1 g2
    rw [List.getElem?_take_of_lt (by omega)] at g1 g2
    constructor
    · rw [Lib.cell_of_heap h2, ← g1]; simp
    · rw [Lib.cell_of_heap h2, ← g2]; simp
theorem info41 : (Tryz.prog.info? 41).map (fun i => (i.zero, i.size, i.bytes)) = some (some (.agg #[.string ⟨#[]⟩, .string ⟨#[]⟩]), 2, 32) := by kernel_rfl
theorem bsl24 (a b : ByteArray) (w : World) : Sem.run Tryz.prog (Instr.buildSlice 24 1 #[(0, .agg #[.string a, .string b])]) w = .ok (.slice (some ⟨w.heap.size, 0, none⟩) 1 1) (w.alloc (.cells #[.string a, .string b] 41)) := by kernel_rfl
theorem append24 (w : World) (B : Nat) (v : Value) (ps : List Pr) (p : Pr) (hown : w.ownsRow B 41 2 v ps.length (pairCells ps)) (hB : B ≤ w.heap.size) (hl : ps.length ≤ 1000000) :
    ∃ v' w', Sem.run Tryz.prog (Builtin.append_ #[24, 24] 24 #[v, .slice (some ⟨w.heap.size, 0, none⟩) 1 1]) (al w [([.string (mkS p.1), .string (mkS p.2)], 41)]) = .ok v' w' ∧
      (w'.ownsRow B 41 2 v' (ps ++ [p]).length (pairCells (ps ++ [p])) ∧ Below B w w') := by
  obtain ⟨i0, hi, hz0, hz1, hz2⟩ := info_parts info41
  have hnews : ∀ (j : Nat) (u : Value), [Value.string (mkS p.1), Value.string (mkS p.2)][j]? = some u → (al w [([Value.string (mkS p.1), Value.string (mkS p.2)], 41)]).cell? ((⟨w.heap.size, 0, none⟩ : Addr).add j) = some u := by
    intro j u hj
    rcases j with _ | _ | j
    · simp at hj; subst hj; exact al_cell0 ..
    · simp at hj; subst hj
      simp only [push_cast]
    · simp at hj
  obtain ⟨v', w', h1, h2, h3, _⟩ := run_append_own (P := Tryz.prog) (al w [([.string (mkS p.1), .string (mkS p.2)], 41)]) B 24 24 41 i0 (.agg #[.string ⟨#[]⟩, .string ⟨#[]⟩]) 2 32 Tryz.underlying24 hi hz0 hz1 hz2 rfl (by decide) v ps.length (pairCells ps) (own_below hown (al_below _ _)) ⟨w.heap.size, 0, none⟩ 1 1 [.string (mkS p.1), .string (mkS p.2)] rfl hnews (by simp; exact ⟨rfl, rfl⟩) (by unfold maxLen; omega) (by omega) (by rw [al_size]; omega)
  · refine ⟨v', w', h1, ?_, ?_⟩
    · rw [pairCells_append, show (ps ++ [p]).length = ps.length + 1 from by simp]; exact h2
    · refine Below.grown ((al_below w _).mono hB) h3 (by rw [al_size]; omega) ?_
      intro k hk
      rcases hown.2 with ⟨rfl, _⟩ | ⟨g, cap, cur, rfl, hBg, _⟩
      · cases hk
      · cases hk; exact hBg
theorem split_cells (s : ByteArray) (c : UInt8) : ((Lib.splitB ⟨#[c]⟩ 0 (Lib.countB s ⟨#[c]⟩) s).map Value.string) = (parts c (toL s)).map fun l => .string (mkS l) := by
  rw [← (split_parts s c).1, List.map_map]
  apply List.map_congr_left
  intro x _
  simp only [Function.comp, mkS_toL]
theorem getP_any (ps : List Pr) (n : Bytes) : (getP ps n).isSome = ps.any (fun y => decide (y.1 = n)) := by
  unfold getP
  rw [Option.isSome_map, Bool.eq_iff_iff, List.find?_isSome]
  simp
/-- A slice in a block from B on. -/
def FreshV (B : Nat) (v : Value) : Prop := match v with | .slice (some a) _ _ => B ≤ a.block | _ => True
theorem fresh_of_own {w : World} {B size n : Nat} {T : TypeId} {v : Value} {xs : List Value} (h : w.ownsRow B T size v n xs) : FreshV B v := by
  rcases h.2 with ⟨rfl, _⟩ | ⟨g, cap, cur, rfl, h1, _⟩
  · trivial
  · exact h1
theorem FreshV.mono {B B' : Nat} {v : Value} (h : FreshV B v) (hB : B' ≤ B) : FreshV B' v := by
  unfold FreshV at h ⊢
  split
  · exact Nat.le_trans hB h
  · trivial
theorem pairsAt_set {w : World} {v x : Value} {ps : List Pr} {B b i : Nat} (h : PairsAt w v ps) (hf : FreshV B v) (hb : b < B) : PairsAt (w.setCell ⟨b, i, none⟩ x) v ps := by
  rcases h with h | ⟨b1, o, c, rfl, h2, h3⟩
  · exact .inl h
  · have hne : b ≠ b1 := by have : B ≤ b1 := hf; omega
    refine .inr ⟨b1, o, c, rfl, by rw [sc_size]; exact h2, fun j p hj => ⟨?_, ?_⟩⟩
    · rw [World.cell?_setCell_far w ⟨b, i, none⟩ _ x hne]; exact (h3 j p hj).1
    · rw [World.cell?_setCell_far w ⟨b, i, none⟩ _ x hne]; exact (h3 j p hj).2
def FormPost (o : Except Int (List Pr)) (e : Ending) (w w' : World) : Prop :=
  match o with
  | .ok ps => ∃ v, e = .returned (.tuple #[v, .int .i64 0]) ∧ PairsAt w' v ps ∧ FreshV w.heap.size v
  | .error er => e = .returned (.tuple #[.slice none 0 0, .int .i64 er])
theorem one_err {l : Bytes} {e : Int} (h : one l = .error e) : e = 30 ∨ e = 31 ∨ e = 10 := by
  unfold one at h
  split at h
  · cases h; simp
  · split at h
    · cases h; simp
    · split at h
      · rename_i hh; cases h; rcases unesc_err hh with rfl | rfl <;> simp
      · split at h
        · rename_i hh; cases h; rcases unesc_err hh with rfl | rfl <;> simp
        · split at h
          · cases h; simp
          · cases h
theorem parts_le (c : UInt8) : ∀ (l p : Bytes), p ∈ parts c l → p.length ≤ l.length
  | l, p, h => by
    rw [parts_cut] at h
    cases hc : cut1 c l with
    | none => rw [hc] at h; simp at h; subst h; exact Nat.le_refl _
    | some ab =>
      obtain ⟨a, b⟩ := ab
      rw [hc] at h
      have hl := cut1_len hc
      rcases List.mem_cons.1 h with rfl | h
      · omega
      · have := parts_le c b p h; omega
termination_by l => l.length
theorem parts_count (c : UInt8) : ∀ (l : Bytes), (parts c l).length ≤ l.length + 1
  | [] => by simp [parts]
  | x :: r => by
    have := parts_count c r
    rw [parts]
    split
    · simp; omega
    · split
      · rename_i h; rw [h] at this; simp at this ⊢; omega
      · simp
theorem form_err {l : Bytes} {e : Int} (h : form l = .error e) : e ≠ 0 := by
  have key : ∀ (ps : List Bytes) (acc : List Pr), formGo ps acc = .error e → e ≠ 0 := by
    intro ps
    induction ps with
    | nil => intro acc h; cases h
    | cons p ps ih =>
      intro acc h
      unfold formGo at h
      split at h
      · cases h; decide
      · split at h
        · rename_i hh; cases h; rcases one_err hh with rfl | rfl | rfl <;> decide
        · split at h
          · cases h; decide
          · exact ih _ h
  unfold form at h
  split at h
  · cases h
  · exact key _ _ h
theorem Form_ (s : ByteArray) (m : Int) (hs : s.size ≤ 1000000) (w : World) (h0 : 0 < w.heap.size) (hm : w.cell? ⟨0, 0, none⟩ = some (.int .i64 m)) :
    Calls Tryz.prog 114 #[.string s] w fun e w' => FormPost (form (toL s)) e w w' ∧ Below w.heap.size w w' := by
  refine calls_X Tryz.func114 rfl Tryz.ntmps114 Tryz.results114 rfl rfl (by kernel_rfl) fun R hR => ?_
  simp only [push_cast, Nat.reduceBEq, Nat.reduceLeDiff, Nat.reduceAdd]
  simp only [show s = ⟨#[]⟩ ↔ toL s = [] from ⟨fun h => by rw [h]; rfl, fun h => by rw [← mkS_toL s, h]; rfl⟩]
  refine ⟨fun he => hR _ _ ⟨?_, Below.refl _ _⟩, fun he => ?_⟩
  · simp only [decide_eq_true_eq] at he
    rw [form, if_pos he]
    exact ⟨_, rfl, .inl ⟨0, rfl, rfl⟩, trivial⟩
  simp only [decide_eq_false_iff_not] at he
  refine (Tryz.strings_Split s _ m w (by omega) hm (by decide)).mono ?_
  rintro e w1 ⟨rfl, hw1⟩
  rw [split_cells, al_alloc, List.toList_toArray] at hw1
  have hlen := (split_parts s 38).2
  rw [← hlen]
  have ef : form (toL s) = formGo (parts 38 (toL s)) [] := by rw [form, if_neg he]
  have hple := parts_le 38 (toL s)
  have hlen2 := parts_count 38 (toL s)
  rw [toL_len] at hple hlen2
  generalize parts 38 (toL s) = pl at hw1 hlen ef hple hlen2
  have hb1 : Below w.heap.size w w1 := by rw [hw1]; exact al_below _ _
  have hs1 : w1.heap.size = w.heap.size + 1 := by rw [hw1, al_size]; rfl
  simp only [push_cast, Nat.reduceBEq, Nat.reduceLeDiff, Nat.reduceAdd]
  refine law_loop [(2, 4), (6, 10), (16, 43)] (fun n h w' => ∃ (k : Nat) (acc : List Pr) (v : Value), k ≤ pl.length ∧ n = pl.length - k ∧ h 16 = .int .i64 k ∧ h 4 = v ∧ w'.ownsRow w1.heap.size 41 2 v acc.length (pairCells acc) ∧ acc.length ≤ 32 ∧ form (toL s) = formGo (pl.drop k) acc ∧ Below w1.heap.size w1 w') pl.length ⟨0, [], _, by omega, by omega, rfl, rfl, ⟨rfl, .inl ⟨rfl, rfl⟩⟩, by simp, ef, Below.refl _ _⟩ ?_
  rintro n h w2 ⟨k, acc, v, hk, hn, h16, h4, hown, hacc, hf, hb⟩ T hT
  obtain ⟨A, c, rfl, _⟩ := pairsAt_shape (pairs_of_own hown)
  simp only [push_cast, Nat.reduceBEq, Nat.reduceLeDiff, Nat.reduceAdd, h16, h4]
  refine ⟨fun hc => ?_, fun hc => ?_⟩
  · simp only [decide_eq_true_eq, Int.ofNat_lt] at hc
    have hd := List.drop_eq_getElem_cons hc
    have hp : pl[k]? = some pl[k] := List.getElem?_eq_getElem hc
    have hpl := hple pl[k] (List.getElem_mem hc)
    generalize pl[k] = p at hd hp hpl
    have c0 : w2.cell? ⟨w.heap.size, k, none⟩ = some (.string (mkS p)) := by
      rw [hb.cell (p := ⟨w.heap.size, k, none⟩) (by show w.heap.size < _; omega), hw1, al_cell0]
      simp [cellL, hp]
    have hm2 : w2.cell? ⟨0, 0, none⟩ = some (.int .i64 m) := by rw [hb.cell (p := ⟨0, 0, none⟩) (by show 0 < _; omega), hb1.cell (p := ⟨0, 0, none⟩) h0]; exact hm
    have hsz2 := hb.size
    have hbw2 : Below w.heap.size w w2 := hb1.trans (hb.mono hb1.size)
    rw [hd] at hf
    simp only [push_cast, Nat.reduceBEq, Nat.reduceLeDiff, Nat.reduceAdd, c0, h4, Nat.mul_one]
    refine ⟨⟨by omega, by omega⟩, fun h1 => hR _ _ ⟨?_, hbw2⟩, fun h1 => ?_⟩
    · simp only [decide_eq_true_eq] at h1
      rw [hf, formGo, if_pos (by omega)]; rfl
    simp only [decide_eq_false_iff_not] at h1
    rw [formGo, if_neg (by omega)] at hf
    refine (one_ (mkS p) m (by rw [size_mkS]; omega) w2 (by omega) hm2).mono ?_
    rintro e w3 ⟨rfl, hb3⟩
    rw [toL_mkS]
    have hbw3 : Below w1.heap.size w1 w3 := hb.trans (hb3.mono hsz2)
    have hs3 := hb3.size
    cases ho : one p with
    | error er =>
      rw [ho] at hf
      have hne : (decide (er ≠ 0)) = true := by rcases one_err ho with rfl | rfl | rfl <;> rfl
      simp only [push_cast, Nat.reduceBEq, Nat.reduceLeDiff, Nat.reduceAdd, Int.reduceNe, decide_true, decide_false, pv, hne]
      exact hR _ _ ⟨by rw [hf]; rfl, hb1.trans ((Below_al hbw3 _ (Nat.le_refl _)).mono hb1.size)⟩
    | ok x =>
      rw [ho] at hf
      obtain ⟨x1, x2⟩ := x
      have hown3 := own_below hown (hb3.trans ((al_below w3 [([.string (mkS x1), .string (mkS x2)], 41)]).mono hs3))
      simp only [push_cast, Nat.reduceBEq, Nat.reduceLeDiff, Nat.reduceAdd, Int.reduceNe, decide_true, decide_false, pv, h4]
      refine (Get_ _ acc (mkS x1) _ (pairs_of_own hown3) (by omega)).mono ?_
      rintro e w4 ⟨rfl, hb4⟩
      rw [toL_mkS]
      have hs4 : w3.heap.size + 1 ≤ w4.heap.size := by have := hb4.size; simpa [al_size] using this
      have hown4 := own_below hown3 hb4
      obtain ⟨d0, _⟩ := new_cell hb4 (by simp [al_size]) 0
      obtain ⟨d1, _⟩ := new_cell hb4 (by simp [al_size]) 1
      simp only [List.getElem?_cons_zero, List.getElem?_cons_succ] at d0 d1
      have hbw4 : Below w1.heap.size w1 w4 := (Below_al hbw3 _ (Nat.le_refl _)).trans (hb4.mono (by rw [al_size]; omega))
      have hany := getP_any acc x1
      simp only at hf
      cases hg : getP acc x1 with
      | some y =>
        rw [hg] at hany
        simp only [push_cast, Nat.reduceBEq, Nat.reduceLeDiff, Nat.reduceAdd, gvP]
        refine hR _ _ ⟨?_, hb1.trans (hbw4.mono hb1.size)⟩
        rw [hf, if_pos (by rw [← hany]; rfl)]; rfl
      | none =>
        rw [hg] at hany
        simp only [push_cast, Nat.reduceBEq, Nat.reduceLeDiff, Nat.reduceAdd, gvP, h4, d0, d1, bsl24]
        refine getR_of (append24 w4 w1.heap.size _ acc (x1, x2) hown4 hbw4.size (by omega)) ?_
        rintro v' w5 ⟨hown5, hb5⟩
        simp only [push_cast, Nat.reduceBEq, Nat.reduceLeDiff, Nat.reduceAdd, h16]
        refine hT (pl.length - (k + 1)) _ _ (by simp only [push_cast, Nat.reduceBEq, Nat.reduceLeDiff]) (by omega) ⟨k + 1, acc ++ [(x1, x2)], v', by omega, rfl, ?_, ?_, hown5, ?_, ?_, hbw4.trans hb5⟩
        · simp only [push_cast, Nat.reduceBEq, Nat.reduceLeDiff]; rw [w64 (by omega) (by omega)]
        · simp only [push_cast, Nat.reduceBEq, Nat.reduceLeDiff]
        · simp only [List.length_append, List.length_cons, List.length_nil]; omega
        · rw [hf, if_neg (by rw [← hany]; simp)]
  · simp only [decide_eq_false_iff_not, Int.ofNat_lt, Nat.not_lt] at hc
    refine hR _ _ ⟨?_, hb1.trans (hb.mono hb1.size)⟩
    rw [hf, List.drop_eq_nil_of_le hc]
    exact ⟨_, rfl, pairs_of_own hown, (fresh_of_own hown).mono (by omega)⟩
end Go.Proofs.YtciepffocobgpaaGreatDoor
