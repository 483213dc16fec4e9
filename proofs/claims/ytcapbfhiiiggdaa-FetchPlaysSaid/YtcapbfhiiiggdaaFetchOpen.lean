/- What each row of fetch asks of the program; its arguments opened. No conditions beyond those that each statement types. -/
import Derived.Test.YtcapbfhiiiggdaaOpenInts
namespace Go.Proofs.Ytcapbfhiiiggdaa
open Go.RowKit Go.ChangeShapes Go.WideShapes Go.ChangeAt Go.Deep
theorem Try.own : ownKnob Try.prog.godebug = none := by kernel_rfl
theorem Try.laidOut : laidOutB Try.prog = true := by kernel_rfl
theorem Try.cellsByte : Try.prog.cellsOf 5 = 1 := by kernel_rfl
theorem Try.cellsInt : Try.prog.cellsOf 3 = 1 := by kernel_rfl
theorem open_answers {H : Type} {enc : TypeId × Value → H} {w : World} {v : Value} {d : DataW H} {ps : List MemPlace} (hv : ∃ ao n c, v = .slice ao n c)
    (h : DataW.Trod enc Try.prog w 0 (fun _ => true) true 35 v d ps) : ∃ ao c l, v = .slice ao (List.length l) c ∧ l.length ≤ 9223372036854775807 ∧ Src w ao (bvs l) := by
  obtain ⟨ao, c, l, h1, h2, h3, _⟩ := open_byte_slice Try.underlying35 Try.underlying5 Try.cellsByte hv h
  exact ⟨ao, c, l, h1, h2, h3⟩
theorem open_numbers {H : Type} {enc : TypeId × Value → H} {w : World} {v : Value} {d : DataW H} {ps : List MemPlace} (hv : ∃ ao n c, v = .slice ao n c)
    (h : DataW.Trod enc Try.prog w 0 (fun _ => true) true 24 v d ps) : ∃ ao c l, v = .slice ao (List.length l) c ∧ l.length ≤ 9223372036854775807 ∧ (∀ x ∈ l, (Lit.int .i64 x).wf = true) ∧ (ao = none → c = 0) ∧ l.length ≤ c ∧ c ≤ 9223372036854775807 ∧ Src w ao (l.map (Value.int .i64)) := by
  obtain ⟨ao, c, l, h1, h2, h3, h4, h5, h6, h7⟩ := open_int_slice Try.underlying24 Try.underlying3 Try.cellsInt hv h
  exact ⟨ao, c, l, h1, h2, h3, h5, h6, h7, h4⟩
end Go.Proofs.Ytcapbfhiiiggdaa
