/- What the rows' frame gives. -/
import Derived.Test.YtciepffocobgpaaGreatDoorMh
import Derived.Test.YtciepffocobgpaaGreatDoorRows
import Derived.LaidMore
import Derived.Lay
import Derived.Lib.LaidU8
import Derived.PinnedBridge
import Derived.Deep.DeepHandedRow
import Derived.SevenTiedAt
import Derived.WalkKit
import Derived.ProofKit
import Derived.OpenShut
import Derived.ShutString
import Derived.ChangeOld
import Derived.Below
/-! What the rows' list of package-level variables gives. -/
namespace Go.Proofs.YtciepffocobgpaaGreatDoor
open Go Go.Sx
set_option maxRecDepth 100000
theorem u8x : Go.Proofs.U8Extra Tryz.prog Tryz.lays260_ren := ⟨by kernel_rfl, by kernel_rfl, by kernel_rfl, by kernel_rfl, by kernel_rfl, by kernel_rfl, by kernel_rfl⟩
theorem accept_eq : (Rows.laid_unicode_utf8_acceptRanges : DataW Unit) = Lib.acceptData := by kernel_rfl
theorem pow_eq : (Rows.laid_internal_strconv_uint64pow10 : DataW Unit) = Lib.tabData .u64 Lib.pow10Tab := by kernel_rfl
theorem row8 : (((begin Tryz.prog (fun _ _ => 0) default).world.heap[8]?).bind Obj.row?).isSome = true := by kernel_rfl
theorem powType : (Tryz.prog.globals[3]?).map (·.type) = some 193 := by kernel_rfl
theorem G_of {W : World} (h : laidMetH Tryz.prog Rows.httpParsesRow.laid W) (hs : W.ShapedOpen Tryz.prog) : G W := by
  rw [MakeChecks.laidMetH_plain _ _ _ (by kernel_rfl)] at h
  have h3 : Lib.VarReads Tryz.prog W "unicode/utf8.first" Lib.firstData := by
    have := Lib.laidMet.reads h (n := "unicode/utf8.first") (d := Rows.laid_unicode_utf8_first) (by simp [Rows.httpParsesRow])
    rw [show Rows.laid_unicode_utf8_first = Lib.firstData from Go.Pinned.utf8First_eq] at this
    exact this
  have h4 : Lib.VarReads Tryz.prog W "unicode/utf8.acceptRanges" Lib.acceptData := by
    have := Lib.laidMet.reads h (n := "unicode/utf8.acceptRanges") (d := Rows.laid_unicode_utf8_acceptRanges) (by simp [Rows.httpParsesRow])
    rw [accept_eq] at this
    exact this
  have h5 : Lib.VarReads Tryz.prog W "internal/strconv.uint64pow10" (Lib.tabData .u64 Lib.pow10Tab) := by
    have := Lib.laidMet.reads h (n := "internal/strconv.uint64pow10") (d := Rows.laid_internal_strconv_uint64pow10) (by simp [Rows.httpParsesRow])
    rw [pow_eq] at this
    exact this
  refine ⟨?_, Tryz.laysM219.s1_3 W hs, Go.Proofs.utf8Tabs_of_reads Tryz.lays260 u8x h3 h4, ?_⟩
  · obtain ⟨x, hx⟩ := Option.isSome_iff_exists.1 row8
    obtain ⟨zero, t⟩ := x
    obtain ⟨cs, hcs, _⟩ := hs.1 8 zero t (of_decide_eq_true (by kernel_rfl)) hx
    exact (Array.getElem?_eq_some_iff.1 hcs).1
  · obtain ⟨g, t, cs, fuel, p, hg, hty, hvar, hd⟩ := h5
    obtain rfl := Option.some.inj (powNamed.symm.trans hg)
    obtain rfl := Option.some.inj (powType.symm.trans hty)
    unfold Lib.TabIs
    rw [hvar, ← Lib.cells_of_tab Tryz.underlying193 Tryz.underlying166 (by kernel_rfl) (by kernel_rfl) hd]
end Go.Proofs.YtciepffocobgpaaGreatDoor
/-! What a row's frame gives: bytes that came in; a world that fits. -/
namespace Go.Proofs.YtciepffocobgpaaGreatDoor
open Go Go.Sx
open Go.ChangeShapes Go.WideShapes Go.ChangeAt Go.RowKit
open Go.ChangeMaps (open_string shut_string)
set_option linter.unusedVariables false
theorem ownK : ownKnob Tryz.prog.godebug = none := by kernel_rfl
theorem laidOutK : laidOutB Tryz.prog = true := by kernel_rfl
abbrev laidRow : List (String × DataW Unit) := Rows.httpParsesRow.laid
noncomputable def wit (os : Os) : World := World.laidAll Tryz.prog os laidRow
set_option maxRecDepth 100000 in
theorem wit_shaped (os : Os) (args : Array Value) : ((wit os).forCall (fun _ _ => 0) ⟨#[], args, []⟩).Shaped Tryz.prog := World.shaped_of_ZipB (by kernel_rfl) (by kernel_rfl)
set_option maxRecDepth 100000 in
theorem wit_laid (os : Os) (args : Array Value) : laidMetH Tryz.prog laidRow ((wit os).forCall (fun _ _ => 0) ⟨#[], args, []⟩).memory := by
  rw [MakeChecks.laidMetH_plain _ _ _ (by kernel_rfl)]
  exact laidMet_laidAll _ (by kernel_rfl) (by kernel_rfl)
/-- A slice of bytes that came in, as a list. -/
theorem bytes_in {W : World} {H : Type} {enc : TypeId × Value → H} {base : Nat} {a : Option Addr} {len cap : Nat} {d : DataW H} {p : List MemPlace}
    (h0 : ∃ fuel, DataW.trod enc Tryz.prog W base (fun _ => true) true fuel 22 (Value.slice a len cap).cells.toList = some (d, p)) : ∃ l : Bytes, BytesAt W (.slice a len cap) l := by
  obtain ⟨fuel, hf⟩ := h0
  rcases open_ints Tryz.underlying22 Tryz.underlying5 (by kernel_rfl) hf with ⟨hcs, _⟩ | ⟨x, l, c, zs, hcs, _, hl, hm, hz, _, hcell, hwz⟩
  · simp [Value.cells] at hcs
    obtain ⟨rfl, rfl, rfl⟩ := hcs
    exact ⟨[], .inl ⟨none, 0, rfl, rfl⟩⟩
  · simp [Value.cells] at hcs
    obtain ⟨rfl, rfl, rfl⟩ := hcs
    have hz' : zs.length = cap := by simpa using hz
    by_cases h00 : len = 0
    · subst h00; exact ⟨[], .inl ⟨some x, cap, rfl, rfl⟩⟩
    obtain ⟨b, o, sp⟩ := x
    have hsp : sp = none := by
      have := hcell 0 (by omega)
      exact Go.Proofs.cell_spot (w := W) (b := b) (o := o + 0) (sp := sp) this
    subst hsp
    have hlt : b < W.heap.size := World.block_lt_of_cell? W ⟨b, o + 0, none⟩ (hcell 0 (by omega))
    refine ⟨(zs.take len).map fun n => UInt8.ofNat n.toNat, .inr ⟨b, o, cap, by rw [List.length_map, List.length_take, Nat.min_eq_left (by omega)], hlt, fun j y hj => ?_⟩⟩
    rw [List.getElem?_map] at hj
    obtain ⟨z, hz1, rfl⟩ := Option.map_eq_some_iff.1 hj
    rw [List.getElem?_take] at hz1
    split at hz1
    · have hjl := (List.getElem?_eq_some_iff.1 hz1).1
      have hc := hcell j hjl
      have hmem := List.mem_of_getElem? hz1
      have hb := hwz z hmem
      have hget : zs.getD j 0 = z := by rw [List.getD, hz1]; rfl
      rw [hget] at hc
      have hb' : 0 ≤ z ∧ z ≤ 255 := bounds_u8 hb
      rw [Addr.add_lit] at hc
      rw [hc]
      have h256 : z.toNat < 256 := by omega
      have : (UInt8.ofNat z.toNat).toNat = z.toNat := UInt8.toNat_ofNat_of_lt' h256
      rw [this, Int.toNat_of_nonneg hb'.1]
    · cases hz1
end Go.Proofs.YtciepffocobgpaaGreatDoor
