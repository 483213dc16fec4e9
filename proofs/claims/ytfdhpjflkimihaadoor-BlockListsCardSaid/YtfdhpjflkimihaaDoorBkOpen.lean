/- What each row of sha asks of the program; a digest among the arguments, opened. No conditions beyond those that each statement types. -/
import Derived.Test.YtfdhpjflkimihaaDoorShaLaid
import Derived.Test.YtfdhpjflkimihaaDoorBkE
import Derived.Test.YtfdhpjflkimihaaDoorOpenInts
import Derived.SevenTiedAt
namespace Go.Proofs.YtfdhpjflkimihaaDoor
open Go.RowKit Go.ChangeShapes Go.WideShapes Go.ChangeAt Go.Deep
theorem Tryd.own : ownKnob Tryd.prog.godebug = none := by kernel_rfl
theorem Tryd.laidOut : laidOutB Tryd.prog = true := by kernel_rfl
theorem Tryd.cellsByte : Tryd.prog.cellsOf 5 = 1 := by kernel_rfl

set_option maxRecDepth 100000 in
theorem okWide_hash {w : World} {r : Reach} {b0 : Nat} {v : Value} (h : Value.okWide Tryd.prog w r b0 32 v) : ∃ cs, v = .agg cs := by
  simp only [Value.okWide, Tryd.underlying32] at h
  obtain ⟨cs, h1, _⟩ := h
  exact ⟨cs, h1⟩

set_option maxRecDepth 100000 in
theorem open_hash {H : Type} {enc : TypeId × Value → H} {w : World} {r : Reach} {b0 : Nat} {v : Value} {d : DataW H} {ps : List MemPlace} (hv : Value.okWide Tryd.prog w r b0 32 v)
    (h : DataW.Trod enc Tryd.prog w 0 (fun _ => true) true 32 v d ps) : ∃ f : Nat → UInt8, v = hashV f := by
  obtain ⟨cs, rfl⟩ := okWide_hash hv
  obtain ⟨fuel, hf⟩ := h
  obtain ⟨xs, m, _, _, hl, hxs, hel⟩ := DataW.trod_array Tryd.underlying32 hf
  have h32 : Tryd.prog.cellsOf 32 = 32 := by kernel_rfl
  have hlen : cs.size = 32 := by rw [h32] at hl; simpa [Value.cells] using hl
  have hget : ∀ i, i < 32 → ∃ x : UInt8, cs[i]? = some (bv x) := fun i hi => by
    have hE := hel i hi
    rw [Tryd.cellsByte, Nat.mul_one, List.getElem?_eq_getElem (by omega)] at hE
    obtain ⟨z, e1, _, hw⟩ := DataW.trod_int Tryd.underlying5 hE
    have h6 : (cs.toList.drop i)[0]? = some (.int .u8 z) := by
      have := congrArg (fun l => l[0]?) e1
      simpa [List.getElem?_take, Value.cells] using this
    rw [List.getElem?_drop, Nat.add_zero, Array.getElem?_toList] at h6
    have hb : 0 ≤ z ∧ z ≤ 255 := bounds_u8 hw
    refine ⟨UInt8.ofNat z.toNat, ?_⟩
    rw [h6]
    unfold bv
    rw [UInt8.toNat_ofNat', Nat.mod_eq_of_lt (by omega)]
    congr 2
    omega
  refine ⟨fun i => if h : i < 32 then Classical.choose (hget i h) else 0, ?_⟩
  unfold hashV
  congr 1
  apply Array.ext_getElem?
  intro i
  by_cases hi : i < 32
  · have h1 := Classical.choose_spec (hget i hi)
    rw [hashC, cut_get _ _ _ _ hi, Nat.zero_add]
    simp only [hi, dite_true]
    exact h1
  · rw [Array.getElem?_eq_none (by omega), Array.getElem?_eq_none (by rw [hashC_size]; omega)]
theorem open_bytesB {H : Type} {enc : TypeId × Value → H} {w : World} {v : Value} {d : DataW H} {ps : List MemPlace} (hv : ∃ ao n c, v = .slice ao n c)
    (h : DataW.Trod enc Tryd.prog w 0 (fun _ => true) true 25 v d ps) : ∃ ao c l, v = .slice ao (List.length l) c ∧ l.length ≤ 9223372036854775807 ∧ (ao = none → c = 0) ∧ l.length ≤ c ∧ Src w ao (bvs l) := by
  obtain ⟨ao, c, l, h1, h2, h3, h4, h5, _⟩ := open_byte_slice Tryd.underlying25 Tryd.underlying5 Tryd.cellsByte hv h
  exact ⟨ao, c, l, h1, h2, h4, h5, h3⟩
end Go.Proofs.YtfdhpjflkimihaaDoor
