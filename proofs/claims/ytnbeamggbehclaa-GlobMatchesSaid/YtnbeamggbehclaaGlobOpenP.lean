/- A slice of texts as an argument, opened. No conditions beyond those that each statement types. -/
import Derived.Test.YtnbeamggbehclaaGlobOpen
import Derived.SliceStrings
namespace Go.Proofs.Ytnbeamggbehclaa
open Go.RowKit Go.ChangeShapes Go.WideShapes Go.ChangeAt Go.Deep
theorem Try.cellsStr : Try.prog.cellsOf 9 = 1 := by kernel_rfl
theorem open_paths {H : Type} {enc : TypeId × Value → H} {w : World} {v : Value} {d : DataW H} {ps : List MemPlace} (hv : ∃ ao n c, v = .slice ao n c)
    (h : DataW.Trod enc Try.prog w 0 (fun _ => true) true 22 v d ps) : ∃ ao c l, v = .slice ao (List.length l) c ∧ l.length ≤ 9223372036854775807 ∧ Src w ao (l.map Value.string) := by
  obtain ⟨ao, n0, c0, rfl⟩ := hv
  obtain ⟨fuel, hf⟩ := h
  rcases open_strings Try.underlying22 Try.underlying9 Try.cellsStr hf with ⟨h0, _⟩ | ⟨a, len, cap, ss, hcs, _, hlc, hcm, hss, _, hc, _⟩
  · have h1 : Value.slice ao n0 c0 = .slice none 0 0 := by simpa [Value.cells] using h0
    exact ⟨none, 0, [], h1, by simp, Src.empty _ _⟩
  · have h1 : Value.slice ao n0 c0 = .slice (some a) len cap := by simpa [Value.cells] using hcs
    simp only [if_true] at hss
    refine ⟨some a, cap, ss.take len, ?_, ?_, ⟨fun h => by (cases h), fun b hb j u hu => ?_⟩⟩
    · rw [h1, List.length_take, Nat.min_eq_left (by omega)]
    · rw [List.length_take]
      unfold maxLen at hcm
      omega
    · cases hb
      have hj : j < len := by
        have := (List.getElem?_eq_some_iff.1 hu).1
        simp at this
        omega
      have h2 := hc j (by omega)
      rw [h2]
      rw [List.getElem?_map, List.getElem?_take, if_pos hj] at hu
      have h3 : ss[j]? = some (ss[j]'(by omega)) := List.getElem?_eq_getElem (by omega)
      rw [h3] at hu
      rw [List.getD, h3]
      simpa using hu
end Go.Proofs.Ytnbeamggbehclaa
