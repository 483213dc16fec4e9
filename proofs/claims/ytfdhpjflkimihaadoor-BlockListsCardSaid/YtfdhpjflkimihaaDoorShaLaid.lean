/- What the rows' condition on package variables gives the walks of sha. No conditions beyond those that each statement types. -/
import Derived.Test.YtfdhpjflkimihaaDoorShaB0
import Derived.Test.YtfdhpjflkimihaaDoorTie
import Derived.ProofKit
import Derived.LaidMore
import Derived.OpenShut
namespace Go.Proofs.YtfdhpjflkimihaaDoor
open Go Go.RowKit Go.ChangeShapes Go.WideShapes Go.ChangeAt

def laidL : List (String × DataW Unit) := [("caravan/sha.first", Rows.laid_caravan_sha_first), ("caravan/sha.roots", Rows.laid_caravan_sha_roots)]
theorem gFirst : Tryd.prog.globalNamed "caravan/sha.first" = some 0 := by kernel_rfl
theorem gRoots : Tryd.prog.globalNamed "caravan/sha.roots" = some 1 := by kernel_rfl
theorem tFirst : (Tryd.prog.globals[0]?).map (·.type) = some 115 := by kernel_rfl
theorem tRoots : (Tryd.prog.globals[1]?).map (·.type) = some 176 := by kernel_rfl
theorem c32 : Tryd.prog.cellsOf 73 = 1 := by kernel_rfl

def firstD : List (DataW Unit) := firstL.map fun x => .lit (.int .u32 x.toNat)
def rootD : List (DataW Unit) := rootL.map fun x => .lit (.int .u32 x.toNat)
theorem firstD_eq : (Rows.laid_caravan_sha_first : DataW Unit) = .agg firstD := by kernel_rfl
theorem rootD_eq : (Rows.laid_caravan_sha_roots : DataW Unit) = .agg rootD := by kernel_rfl

theorem table_cell {W : World} {g t n : Nat} {nm : String} {L : List UInt32} {cs : Array Value} {fuel : Nat} {ps : List MemPlace} (hg : Tryd.prog.globalNamed nm = some g) (hv : W.var? Tryd.prog nm = some cs)
    (ht : Tryd.prog.underlying t = some (.array n 73)) (hL : L.length = n) {enc : TypeId × Value → Unit} (hd : DataW.trod enc Tryd.prog W 0 (fun _ => true) false fuel t cs.toList = some (.agg (L.map fun x => .lit (.int .u32 x.toNat)), ps)) (i : Nat) (hi : i < n) :
    W.cell? ⟨g, i, none⟩ = some (wv (L.getD i 0)) := by
  obtain ⟨xs, m, _, ex, _, hl, hel⟩ := DataW.trod_array ht hd
  have hE := hel i hi
  rw [c32, Nat.mul_one, List.getElem?_eq_getElem (by omega)] at hE
  obtain ⟨z, e1, e2, _⟩ := DataW.trod_int Tryd.underlying73 hE
  have e3 := (DataW.agg.inj (Prod.mk.inj ex).1).symm
  have e4 : (xs.map (·.1))[i]? = (L.map fun x => (DataW.lit (.int .u32 x.toNat) : DataW Unit))[i]? := by rw [e3]
  rw [List.getElem?_map, List.getElem?_map, List.getElem?_eq_getElem (by omega : i < xs.length), List.getElem?_eq_getElem (by omega : i < L.length), e2] at e4
  have hz : z = (L.getD i 0).toNat := by
    simp only [Option.map_some, Option.some.injEq, DataW.lit.injEq, Lit.int.injEq, true_and] at e4
    rw [e4, List.getD_eq_getElem?_getD, List.getElem?_eq_getElem (by omega)]
    rfl
  rw [World.var?_cell hg hv i]
  have h5 : (cs.toList.drop i).take 1 = [.int .u32 z] := e1
  have h6 : (cs.toList.drop i)[0]? = some (.int .u32 z) := by
    have := congrArg (fun l => l[0]?) h5
    simpa [List.getElem?_take] using this
  rw [List.getElem?_drop, Nat.add_zero, Array.getElem?_toList] at h6
  rw [h6, hz]
  rfl

theorem of_laid {W : World} (h : laidMetH Tryd.prog laidL W) : Laid W := by
  rw [MakeChecks.laidMetH_plain _ _ _ (by kernel_rfl)] at h
  obtain ⟨ps, ⟨g0, t0, cs0, f0, p0, q0, hg0, ht0, hv0, hd0, ⟨g1, t1, cs1, f1, p1, q1, hg1, ht1, hv1, hd1, _, _⟩, _⟩, _, _⟩ := h
  obtain rfl := Option.some.inj (gFirst.symm.trans hg0)
  obtain rfl := Option.some.inj (gRoots.symm.trans hg1)
  obtain rfl := Option.some.inj (tFirst.symm.trans ht0)
  obtain rfl := Option.some.inj (tRoots.symm.trans ht1)
  rw [firstD_eq] at hd0
  rw [rootD_eq] at hd1
  exact ⟨fun i hi => table_cell hg0 hv0 Tryd.underlying115 (by rfl) hd0 i hi, fun i hi => table_cell hg1 hv1 Tryd.underlying176 (by rfl) hd1 i hi⟩

/-- The door's own heap meets the condition. -/
theorem door_met (os : Os) (args : Array Value) : laidMetH Tryd.prog laidL ((World.doorLaid Tryd.prog 400 os).forCall (fun _ _ => 0) ⟨#[], args, []⟩).memory :=
  laidMetH_of_parts3 (fuel := 8) (laidMet_of_run' 8 (by kernel_rfl) (by kernel_rfl)) (by kernel_rfl) (by kernel_rfl)
end Go.Proofs.YtfdhpjflkimihaaDoor
