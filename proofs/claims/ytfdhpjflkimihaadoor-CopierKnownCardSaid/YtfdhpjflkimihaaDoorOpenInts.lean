/- Arguments that are slices of integers, opened: a list of the values in memory. For any program. No conditions beyond those that each statement types. -/
import Derived.Test.YtfdhpjflkimihaaDoorRowKit
namespace Go.Proofs.YtfdhpjflkimihaaDoor
open Go.RowKit Go.ChangeShapes Go.WideShapes Go.ChangeAt Go.Deep

theorem open_int_slice {H : Type} {enc : TypeId × Value → H} {P : Program} {w : World} {t e : TypeId} {K : IntKind} {v : Value} {d : DataW H} {ps : List MemPlace} (ht : P.underlying t = some (.slice e)) (he : P.underlying e = some (.int K))
    (hc : P.cellsOf e = 1) (hv : ∃ ao n c, v = .slice ao n c) (h : DataW.Trod enc P w 0 (fun _ => true) true t v d ps) :
    ∃ ao c, ∃ l : List Int, v = .slice ao l.length c ∧ l.length ≤ 9223372036854775807 ∧ (∀ x ∈ l, (Lit.int K x).wf = true) ∧ Src w ao (l.map (Value.int K)) ∧ (ao = none → c = 0) ∧ l.length ≤ c ∧ c ≤ 9223372036854775807 := by
  obtain ⟨ao, n0, c0, rfl⟩ := hv
  obtain ⟨fuel, hf⟩ := h
  rcases open_slice1 ht hc hf with h0 | ⟨a, len, cap, m, n, V, D, Pl, hcs, _, hl, hm, hmm, _, hi⟩
  · obtain ⟨h0, _⟩ := h0
    have h1 : Value.slice ao n0 c0 = .slice none 0 0 := by simpa [Value.cells] using h0
    exact ⟨none, 0, [], h1, by simp, by simp, Src.empty _ _, fun _ => rfl, by simp, by simp⟩
  · have h1 : Value.slice ao n0 c0 = .slice (some a) len cap := by simpa [Value.cells] using hcs
    simp only [if_true] at hmm
    have key : ∀ i, i < len → ∃ x : Int, w.cell? (a.add i) = some (.int K x) ∧ (Lit.int K x).wf = true := by
      intro i hil
      obtain ⟨h2, h3⟩ := hi i (by omega)
      obtain ⟨x, e0, _, w0⟩ := DataW.trod_int he h3
      simp only [List.cons.injEq, and_true] at e0
      exact ⟨x, by rw [h2, e0], w0⟩
    obtain ⟨g, hg⟩ : ∃ g : Nat → Int, ∀ i, i < len → w.cell? (a.add i) = some (.int K (g i)) ∧ (Lit.int K (g i)).wf = true := by
      refine ⟨fun i => if h : i < len then (key i h).choose else 0, fun i h => ?_⟩
      simp only [h, dif_pos]
      exact (key i h).choose_spec
    refine ⟨some a, cap, (List.range len).map g, by simpa using h1, by unfold maxLen at hm; simp; omega, fun x hx => ?_, ⟨fun h => by (cases h), fun b hb j u hu => ?_⟩, fun h => by (cases h), by simpa using hl, by unfold maxLen at hm; exact hm⟩
    · obtain ⟨i, hi2, rfl⟩ := List.mem_map.1 hx
      exact (hg i (List.mem_range.1 hi2)).2
    · cases hb
      have hj : j < len := by
        have := (List.getElem?_eq_some_iff.1 hu).1
        simpa using this
      simp [hj] at hu
      rw [← hu]
      exact (hg j hj).1

theorem open_byte_slice {H : Type} {enc : TypeId × Value → H} {P : Program} {w : World} {t e : TypeId} {v : Value} {d : DataW H} {ps : List MemPlace} (ht : P.underlying t = some (.slice e)) (he : P.underlying e = some (.int .u8))
    (hc : P.cellsOf e = 1) (hv : ∃ ao n c, v = .slice ao n c) (h : DataW.Trod enc P w 0 (fun _ => true) true t v d ps) :
    ∃ ao c, ∃ l : List UInt8, v = .slice ao l.length c ∧ l.length ≤ 9223372036854775807 ∧ Src w ao (bvs l) ∧ (ao = none → c = 0) ∧ l.length ≤ c ∧ c ≤ 9223372036854775807 := by
  obtain ⟨ao, c, l, h1, h2, h3, h4, h5, h6, h7⟩ := open_int_slice ht he hc hv h
  have e : bvs (l.map fun x => UInt8.ofNat x.toNat) = l.map (Value.int .u8) := by
    rw [bvs, List.map_map]
    refine List.map_congr_left fun x hx => ?_
    have := bounds_u8 (h3 x hx)
    show Value.int .u8 ((UInt8.ofNat x.toNat).toNat : Int) = _
    rw [UInt8.toNat_ofNat']
    congr 1
    omega
  exact ⟨ao, c, l.map fun x => UInt8.ofNat x.toNat, by rw [List.length_map]; exact h1, by rw [List.length_map]; exact h2, by rw [e]; exact h4, h5, by rw [List.length_map]; exact h6, h7⟩

end Go.Proofs.YtfdhpjflkimihaaDoor
