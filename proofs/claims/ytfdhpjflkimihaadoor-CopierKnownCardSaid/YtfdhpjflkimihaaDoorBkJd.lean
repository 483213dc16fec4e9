/- What the rows' condition on package variables gives the walks of sha. No conditions beyond those that each statement types. -/
import Derived.Test.YtfdhpjflkimihaaDoorShaB0
import Derived.Test.YtfdhpjflkimihaaDoorTie
import Derived.ProofKit
import Derived.LaidMore
import Derived.OpenShut
import Derived.Test.YtfdhpjflkimihaaDoorBkE
import Derived.Test.YtfdhpjflkimihaaDoorOpenInts
import Derived.SevenTiedAt
import Derived.Test.YtfdhpjflkimihaaDoorOpenRows
import Derived.Test.YtfdhpjflkimihaaDoorBkD2
namespace Go.Proofs.YtfdhpjflkimihaaDoor
open Go Go.RowKit Go.ChangeShapes Go.WideShapes Go.ChangeAt

def laidL : List (String × DataW Unit) := [("caravan/sha.first", Rows.laid_caravan_sha_first), ("caravan/sha.roots", Rows.laid_caravan_sha_roots)]
theorem gFirst : Tryd.prog.globalNamed "caravan/sha.first" = some 0 := by kernel_rfl
theorem gRoots : Tryd.prog.globalNamed "caravan/sha.roots" = some 1 := by kernel_rfl
theorem tFirst : (Tryd.prog.globals[0]?).map (·.type) = some 115 := by kernel_rfl
theorem tRoots : (Tryd.prog.globals[1]?).map (·.type) = some 176 := by kernel_rfl
theorem c32 : Tryd.prog.cellsOf 73 = 1 := by kernel_rfl

def firstD : List (DataW Unit) := firstL.map fun x => .lit (.int .u32 x.toNat)
def rootD : List (DataW Unit) := rootL.map fun x => .lit (.int .u32 x.toNat)
theorem firstD_eq : (Rows.laid_caravan_sha_first : DataW Unit) = .agg firstD := by kernel_rfl
theorem rootD_eq : (Rows.laid_caravan_sha_roots : DataW Unit) = .agg rootD := by kernel_rfl

theorem table_cell {W : World} {g t n : Nat} {nm : String} {L : List UInt32} {cs : Array Value} {fuel : Nat} {ps : List MemPlace} (hg : Tryd.prog.globalNamed nm = some g) (hv : W.var? Tryd.prog nm = some cs)
    (ht : Tryd.prog.underlying t = some (.array n 73)) (hL : L.length = n) {enc : TypeId × Value → Unit} (hd : DataW.trod enc Tryd.prog W 0 (fun _ => true) false fuel t cs.toList = some (.agg (L.map fun x => .lit (.int .u32 x.toNat)), ps)) (i : Nat) (hi : i < n) :
    W.cell? ⟨g, i, none⟩ = some (wv (L.getD i 0)) := by
  obtain ⟨xs, m, _, ex, _, hl, hel⟩ := DataW.trod_array ht hd
  have hE := hel i hi
  rw [c32, Nat.mul_one, List.getElem?_eq_getElem (by omega)] at hE
  obtain ⟨z, e1, e2, _⟩ := DataW.trod_int Tryd.underlying73 hE
  have e3 := (DataW.agg.inj (Prod.mk.inj ex).1).symm
  have e4 : (xs.map (·.1))[i]? = (L.map fun x => (DataW.lit (.int .u32 x.toNat) : DataW Unit))[i]? := by rw [e3]
  rw [List.getElem?_map, List.getElem?_map, List.getElem?_eq_getElem (by omega : i < xs.length), List.getElem?_eq_getElem (by omega : i < L.length), e2] at e4
  have hz : z = (L.getD i 0).toNat := by
    simp only [Option.map_some, Option.some.injEq, DataW.lit.injEq, Lit.int.injEq, true_and] at e4
    rw [e4, List.getD_eq_getElem?_getD, List.getElem?_eq_getElem (by omega)]
    rfl
  rw [World.var?_cell hg hv i]
  have h5 : (cs.toList.drop i).take 1 = [.int .u32 z] := e1
  have h6 : (cs.toList.drop i)[0]? = some (.int .u32 z) := by
    have := congrArg (fun l => l[0]?) h5
    simpa [List.getElem?_take] using this
  rw [List.getElem?_drop, Nat.add_zero, Array.getElem?_toList] at h6
  rw [h6, hz]
  rfl

theorem of_laid {W : World} (h : laidMetH Tryd.prog laidL W) : Laid W := by
  rw [MakeChecks.laidMetH_plain _ _ _ (by kernel_rfl)] at h
  obtain ⟨ps, ⟨g0, t0, cs0, f0, p0, q0, hg0, ht0, hv0, hd0, ⟨g1, t1, cs1, f1, p1, q1, hg1, ht1, hv1, hd1, _, _⟩, _⟩, _, _⟩ := h
  obtain rfl := Option.some.inj (gFirst.symm.trans hg0)
  obtain rfl := Option.some.inj (gRoots.symm.trans hg1)
  obtain rfl := Option.some.inj (tFirst.symm.trans ht0)
  obtain rfl := Option.some.inj (tRoots.symm.trans ht1)
  rw [firstD_eq] at hd0
  rw [rootD_eq] at hd1
  exact ⟨fun i hi => table_cell hg0 hv0 Tryd.underlying115 (by rfl) hd0 i hi, fun i hi => table_cell hg1 hv1 Tryd.underlying176 (by rfl) hd1 i hi⟩

/-- The door's own heap meets the condition. -/
theorem door_met (os : Os) (args : Array Value) : laidMetH Tryd.prog laidL ((World.doorLaid Tryd.prog 400 os).forCall (fun _ _ => 0) ⟨#[], args, []⟩).memory :=
  laidMetH_of_parts3 (fuel := 8) (laidMet_of_run' 8 (by kernel_rfl) (by kernel_rfl)) (by kernel_rfl) (by kernel_rfl)
end Go.Proofs.YtfdhpjflkimihaaDoor
/- What each row of sha asks of the program; a digest among the arguments, opened. No conditions beyond those that each statement types. -/
namespace Go.Proofs.YtfdhpjflkimihaaDoor
open Go.RowKit Go.ChangeShapes Go.WideShapes Go.ChangeAt Go.Deep
theorem Tryd.own : ownKnob Tryd.prog.godebug = none := by kernel_rfl
theorem Tryd.laidOut : laidOutB Tryd.prog = true := by kernel_rfl
theorem Tryd.cellsByte : Tryd.prog.cellsOf 5 = 1 := by kernel_rfl

set_option maxRecDepth 100000 in
theorem okWide_hash {w : World} {r : Reach} {b0 : Nat} {v : Value} (h : Value.okWide Tryd.prog w r b0 32 v) : ∃ cs, v = .agg cs := by
  simp only [Value.okWide, Tryd.underlying32] at h
  obtain ⟨cs, h1, _⟩ := h
  exact ⟨cs, h1⟩

set_option maxRecDepth 100000 in
theorem open_hash {H : Type} {enc : TypeId × Value → H} {w : World} {r : Reach} {b0 : Nat} {v : Value} {d : DataW H} {ps : List MemPlace} (hv : Value.okWide Tryd.prog w r b0 32 v)
    (h : DataW.Trod enc Tryd.prog w 0 (fun _ => true) true 32 v d ps) : ∃ f : Nat → UInt8, v = hashV f := by
  obtain ⟨cs, rfl⟩ := okWide_hash hv
  obtain ⟨fuel, hf⟩ := h
  obtain ⟨xs, m, _, _, hl, hxs, hel⟩ := DataW.trod_array Tryd.underlying32 hf
  have h32 : Tryd.prog.cellsOf 32 = 32 := by kernel_rfl
  have hlen : cs.size = 32 := by rw [h32] at hl; simpa [Value.cells] using hl
  have hget : ∀ i, i < 32 → ∃ x : UInt8, cs[i]? = some (bv x) := fun i hi => by
    have hE := hel i hi
    rw [Tryd.cellsByte, Nat.mul_one, List.getElem?_eq_getElem (by omega)] at hE
    obtain ⟨z, e1, _, hw⟩ := DataW.trod_int Tryd.underlying5 hE
    have h6 : (cs.toList.drop i)[0]? = some (.int .u8 z) := by
      have := congrArg (fun l => l[0]?) e1
      simpa [List.getElem?_take, Value.cells] using this
    rw [List.getElem?_drop, Nat.add_zero, Array.getElem?_toList] at h6
    have hb : 0 ≤ z ∧ z ≤ 255 := bounds_u8 hw
    refine ⟨UInt8.ofNat z.toNat, ?_⟩
    rw [h6]
    unfold bv
    rw [UInt8.toNat_ofNat', Nat.mod_eq_of_lt (by omega)]
    congr 2
    omega
  refine ⟨fun i => if h : i < 32 then Classical.choose (hget i h) else 0, ?_⟩
  unfold hashV
  congr 1
  apply Array.ext_getElem?
  intro i
  by_cases hi : i < 32
  · have h1 := Classical.choose_spec (hget i hi)
    rw [hashC, cut_get _ _ _ _ hi, Nat.zero_add]
    simp only [hi, dite_true]
    exact h1
  · rw [Array.getElem?_eq_none (by omega), Array.getElem?_eq_none (by rw [hashC_size]; omega)]
theorem open_bytesB {H : Type} {enc : TypeId × Value → H} {w : World} {v : Value} {d : DataW H} {ps : List MemPlace} (hv : ∃ ao n c, v = .slice ao n c)
    (h : DataW.Trod enc Tryd.prog w 0 (fun _ => true) true 25 v d ps) : ∃ ao c l, v = .slice ao (List.length l) c ∧ l.length ≤ 9223372036854775807 ∧ (ao = none → c = 0) ∧ l.length ≤ c ∧ Src w ao (bvs l) := by
  obtain ⟨ao, c, l, h1, h2, h3, h4, h5, _⟩ := open_byte_slice Tryd.underlying25 Tryd.underlying5 Tryd.cellsByte hv h
  exact ⟨ao, c, l, h1, h2, h4, h5, h3⟩
end Go.Proofs.YtfdhpjflkimihaaDoor
/- The acts of a row, opened. No conditions beyond those that each statement types. -/
namespace Go.Proofs.YtfdhpjflkimihaaDoor
open Go.RowKit Go.ChangeShapes Go.WideShapes Go.ChangeAt Go.Deep

theorem Tryd.cellsAct : Tryd.prog.cellsOf 50 = 4 := by kernel_rfl
theorem Tryd.cellsBool : Tryd.prog.cellsOf 4 = 1 := by kernel_rfl
theorem Tryd.cellsString : Tryd.prog.cellsOf 9 = 1 := by kernel_rfl
theorem Tryd.cellsInt : Tryd.prog.cellsOf 3 = 1 := by kernel_rfl
def avs (l : List ActV) : List Value := l.flatMap fun a => a.cells.toList
def okAct (a : ActV) : Prop := a.text.size ≤ 9223372036854775807 ∧ a.name.size ≤ 9223372036854775807 ∧ -9223372036854775808 ≤ a.long ∧ a.long ≤ 9223372036854775807
instance : Inhabited ActV := ⟨⟨false, ⟨#[]⟩, ⟨#[]⟩, 0⟩⟩
theorem dec_act {H : Type} {enc : TypeId × Value → H} {w : World} (fuel : Nat) (cs : List Value) (x : DataW H × List MemPlace) (h : DataW.trod enc Tryd.prog w 0 (fun _ => true) true fuel 50 cs = some x) : ∃ a : ActV, cs = a.cells.toList ∧ okAct a := by
  obtain ⟨xs, n, _, _, hl, hx, hf⟩ := DataW.trod_struct Tryd.underlying50 h
  rw [Tryd.cellsAct] at hl
  have hx4 : xs.length = 4 := hx
  have f0 := hf 0 _ rfl
  have f1 := hf 1 _ rfl
  have f2 := hf 2 _ rfl
  have f3 := hf 3 _ rfl
  rw [List.getElem?_eq_getElem (by omega)] at f0 f1 f2 f3
  obtain ⟨b, e0, _⟩ := DataW.trod_bool Tryd.underlying4 f0
  obtain ⟨s, e1, _, l1⟩ := DataW.trod_string Tryd.underlying9 f1
  obtain ⟨t, e2, _, l2⟩ := DataW.trod_string Tryd.underlying9 f2
  obtain ⟨m, e3, _, l3⟩ := DataW.trod_int Tryd.underlying3 f3
  have e0 : (cs.drop 0).take (Tryd.prog.cellsOf 4) = [.bool b] := e0
  have e1 : (cs.drop 1).take (Tryd.prog.cellsOf 9) = [.string s] := e1
  have e2 : (cs.drop 2).take (Tryd.prog.cellsOf 9) = [.string t] := e2
  have e3 : (cs.drop 3).take (Tryd.prog.cellsOf 3) = [.int .i64 m] := e3
  rw [Tryd.cellsBool] at e0
  rw [Tryd.cellsString] at e1 e2
  rw [Tryd.cellsInt] at e3
  refine ⟨⟨b, s, t, m⟩, list_of_four hl (drop_one e0) (drop_one e1) (drop_one e2) (drop_one e3), l2, l1, (bounds_i64 l3)⟩
theorem open_acts {H : Type} {enc : TypeId × Value → H} {w : World} {v : Value} {d : DataW H} {ps : List MemPlace} (hv : ∃ ao n c, v = .slice ao n c)
    (h : DataW.Trod enc Tryd.prog w 0 (fun _ => true) true 42 v d ps) : ∃ ao c l, v = .slice ao (List.length l) c ∧ l.length ≤ 9223372036854775807 ∧ (∀ a ∈ l, okAct a) ∧ (ao = none → c = 0) ∧ l.length ≤ c ∧ Src w ao (avs l) := by
  obtain ⟨ao, c, l, h1, h2, h3, h4, h5, h6, _⟩ := open_rows (fun a : ActV => a.cells.toList) okAct Tryd.underlying42 Tryd.cellsAct (by decide) (fun _ => rfl) dec_act hv h
  exact ⟨ao, c, l, h1, h2, h3, h5, h6, h4⟩
end Go.Proofs.YtfdhpjflkimihaaDoor
