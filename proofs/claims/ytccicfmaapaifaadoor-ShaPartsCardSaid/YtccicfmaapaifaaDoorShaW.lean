/- The parts of the law ShaParts, opened. No conditions beyond those that each statement types. -/
import Derived.Test.YtccicfmaapaifaaDoorShaV
import Derived.Test.YtccicfmaapaifaaDoorShaOpen
namespace Go.Proofs.YtccicfmaapaifaaDoor
open Go.RowKit Go.ChangeShapes Go.WideShapes Go.ChangeAt Go.Deep

theorem weightsAll_mem {H : Type} {P : Program} {e : TypeId} : ∀ {l : List (DataW H)} {d : DataW H}, d ∈ l → ∀ n ∈ d.weights P e, n ∈ DataW.weightsAll P e l
  | x :: l, d, hd, n, hn => by
    rw [DataW.weightsAll]
    rcases List.mem_cons.1 hd with rfl | h
    · exact List.mem_append_left _ hn
    · exact List.mem_append_right _ (weightsAll_mem h n hn)

theorem open_parts {H : Type} {enc : TypeId × Value → H} {w : World} {v : Value} {d : DataW H} {ps : List MemPlace} (hv : ∃ ao n c, v = .slice ao n c)
    (h : DataW.Trod enc Tryd.prog w 0 (fun _ => true) true 42 v d ps) (hz : (DataW.weightsEach Tryd.prog [42] [d]).all (· ≤ reachBytes) = true) :
    ∃ ao c l, v = .slice ao (List.length l) c ∧ l.length ≤ 9223372036854775807 ∧ PartsAt w ao l := by
  obtain ⟨ao, n0, c0, rfl⟩ := hv
  obtain ⟨fuel, hf⟩ := h
  rcases open_slice1 Tryd.underlying42 (by kernel_rfl) hf with h0 | ⟨a, len, cap, m, n, V, D, Pl, hcs, _, hl, hm, hmm, hx, hi⟩
  · obtain ⟨h0, _⟩ := h0
    have h1 : Value.slice ao n0 c0 = .slice none 0 0 := by simpa [Value.cells] using h0
    exact ⟨none, 0, [], h1, by simp, fun i p hp => by simp at hp⟩
  · have h1 : Value.slice ao n0 c0 = .slice (some a) len cap := by simpa [Value.cells] using hcs
    simp only [if_true] at hmm
    have hd := (Prod.mk.inj hx).1
    have key : ∀ i, i < len → ∃ p : PartL, w.cell? (a.add i) = some (.slice p.ao p.l.length p.c) ∧ PartAt w p := by
      intro i hil
      obtain ⟨h2, h3⟩ := hi i (by omega)
      have hw : ∀ x ∈ (D i).weights Tryd.prog 39, x ≤ reachBytes := fun x hx2 => by
        have hmem : x ∈ DataW.weightsEach Tryd.prog [42] [d] := by
          rw [hd, DataW.weightsEach, DataW.weights, Tryd.underlying42]
          refine List.mem_append_left _ (List.mem_cons_of_mem _ (List.mem_append_left _ (weightsAll_mem (List.mem_map.2 ⟨i, List.mem_range.2 hil, rfl⟩) x hx2)))
        have := List.all_eq_true.1 hz x hmem
        simpa using this
      rcases open_slice1 Tryd.underlying39 Tryd.cellsByte h3 with h0 | ⟨a2, len2, cap2, m2, n2, V2, D2, Pl2, hcs2, _, _, _, hmm2, hx2, _⟩
      · obtain ⟨h0, _⟩ := h0
        simp only [List.cons.injEq, and_true] at h0
        refine ⟨⟨none, 0, []⟩, by rw [h2, h0]; rfl, ⟨Src.empty _ _, fun _ => rfl, by simp, by simp⟩⟩
      · simp only [List.cons.injEq, and_true] at hcs2
        have h4 : DataW.Trod enc Tryd.prog w 0 (fun _ => true) true 39 (V i) (D i) (Pl i) := ⟨n, by rw [hcs2] at h3 ⊢; simpa [Value.cells] using h3⟩
        obtain ⟨ao', c', l', e1, e2, e3, e4, e5, e6⟩ := open_byte_slice Tryd.underlying39 Tryd.underlying5 Tryd.cellsByte ⟨_, _, _, hcs2⟩ h4
        have hlen : l'.length = len2 := by
          rw [hcs2] at e1
          simp only [Value.slice.injEq] at e1
          exact e1.2.1.symm
        have hdd := (Prod.mk.inj hx2).1
        have hfew : len2 ≤ reachBytes := by
          have hmem : (len2 + (m2 - len2)) * Tryd.prog.bytesOf 5 ∈ (D i).weights Tryd.prog 39 := by
            rw [hdd, DataW.weights, Tryd.underlying39]
            simp
          have := hw _ hmem
          have hb : Tryd.prog.bytesOf 5 = 1 := by kernel_rfl
          rw [hb] at this
          omega
        refine ⟨⟨ao', c', l'⟩, by rw [h2, e1], ⟨e3, e4, e5, by unfold reachBytes at hfew; show l'.length ≤ _; omega⟩⟩
    obtain ⟨g, hg⟩ : ∃ g : Nat → PartL, ∀ i, i < len → w.cell? (a.add i) = some (.slice (g i).ao (g i).l.length (g i).c) ∧ PartAt w (g i) := by
      refine ⟨fun i => if h : i < len then (key i h).choose else ⟨none, 0, []⟩, fun i h => ?_⟩
      simp only [h, dif_pos]
      exact (key i h).choose_spec
    refine ⟨some a, cap, (List.range len).map g, by simpa using h1, by unfold maxLen at hm; simp; omega, fun i p hp => ?_⟩
    have hil : i < len := by
      have := (List.getElem?_eq_some_iff.1 hp).1
      simpa using this
    simp [hil] at hp
    subst hp
    obtain ⟨p1, p2⟩ := hg i hil
    exact ⟨⟨a, rfl, p1⟩, p2⟩
end Go.Proofs.YtccicfmaapaifaaDoor
