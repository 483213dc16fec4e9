/- Arguments that are slices of structs, opened: a list of what the elements say. For any program. No conditions beyond those that each statement types. -/
import Derived.Test.YtfdhpjflkimihaaDoorOpenInts
namespace Go.Proofs.YtfdhpjflkimihaaDoor
open Go.RowKit Go.ChangeShapes Go.WideShapes Go.ChangeAt Go.Deep

theorem flat_at {α : Type} {enc : α → List Value} {size : Nat} (hs : 0 < size) (he : ∀ q, (enc q).length = size) : ∀ {l : List α} {j : Nat} {u : Value}, (l.flatMap enc)[j]? = some u → ∃ q, l[j / size]? = some q ∧ (enc q)[j % size]? = some u
  | [], j, u, h => by simp at h
  | q :: l, j, u, h => by
    rw [List.flatMap_cons] at h
    by_cases hj : j < size
    · rw [List.getElem?_append_left (by rw [he]; exact hj)] at h
      exact ⟨q, by rw [Nat.div_eq_of_lt hj]; rfl, by rw [Nat.mod_eq_of_lt hj]; exact h⟩
    · rw [List.getElem?_append_right (by rw [he]; omega), he] at h
      obtain ⟨q', h1, h2⟩ := flat_at hs he h
      refine ⟨q', ?_, ?_⟩
      · rw [show j = (j - size) + size by omega, Nat.add_div_right _ hs, List.getElem?_cons_succ]
        exact h1
      · rw [show j = (j - size) + size by omega, Nat.add_mod_right]
        exact h2
theorem flat_length {α : Type} {enc : α → List Value} {size : Nat} (he : ∀ q, (enc q).length = size) (l : List α) : (l.flatMap enc).length = l.length * size := by
  induction l with
  | nil => simp
  | cons a l ih => rw [List.flatMap_cons, List.length_append, ih, he, List.length_cons, Nat.add_mul, Nat.one_mul, Nat.add_comm]

theorem open_rows {α H : Type} [Inhabited α] {enc : TypeId × Value → H} {P : Program} {w : World} {t e : TypeId} {size : Nat} {v : Value} {d : DataW H} {ps : List MemPlace} (cells : α → List Value) (ok : α → Prop) (ht : P.underlying t = some (.slice e))
    (hc : P.cellsOf e = size) (hs : 0 < size) (hcl : ∀ q, (cells q).length = size) (dec : ∀ fuel cs x, DataW.trod enc P w 0 (fun _ => true) true fuel e cs = some x → ∃ q, cs = cells q ∧ ok q)
    (hv : ∃ ao n c, v = .slice ao n c) (h : DataW.Trod enc P w 0 (fun _ => true) true t v d ps) :
    ∃ ao c, ∃ l : List α, v = .slice ao l.length c ∧ l.length ≤ 9223372036854775807 ∧ (∀ x ∈ l, ok x) ∧ Src w ao (l.flatMap cells) ∧ (ao = none → c = 0) ∧ l.length ≤ c ∧ c ≤ 9223372036854775807 := by
  obtain ⟨ao, n0, c0, rfl⟩ := hv
  obtain ⟨fuel, hf⟩ := h
  rcases DataW.trod_slice ht hf with h0 | ⟨a, len, cap, elems, rest, n, _, hcs, _, _, hl, hm, hel, hi, _⟩
  · obtain ⟨h0, _⟩ := h0
    have h1 : Value.slice ao n0 c0 = .slice none 0 0 := by simpa [Value.cells] using h0
    exact ⟨none, 0, [], h1, by simp, by simp, Src.empty _ _, fun _ => rfl, by simp, by simp⟩
  · have h1 : Value.slice ao n0 c0 = .slice (some a) len cap := by simpa [Value.cells] using hcs
    have key : ∀ i, i < len → ∃ q : α, (∀ r, r < size → w.cell? (a.add (i * size + r)) = (cells q)[r]?) ∧ ok q := by
      intro i hil
      have h2 := hi i hil
      rw [List.getElem?_eq_getElem (by omega), hc] at h2
      obtain ⟨cs, h3, h4⟩ := Option.bind_eq_some_iff.1 h2
      obtain ⟨q, rfl, hq⟩ := dec _ _ _ h4
      refine ⟨q, fun r hr => ?_, hq⟩
      have h5 := World.cells?_some h3
      have h6 : w.cell? ((a.add (i * size)).add r) = (cells q)[r]? := h5.2.2 r hr
      rw [← h6]
      congr 1
      unfold Addr.add
      by_cases h7 : i * size = 0 <;> by_cases h8 : r = 0 <;> simp [h7, h8, Nat.add_assoc]
    obtain ⟨g, hg⟩ : ∃ g : Nat → α, ∀ i, i < len → (∀ r, r < size → w.cell? (a.add (i * size + r)) = (cells (g i))[r]?) ∧ ok (g i) := by
      refine ⟨fun i => if h : i < len then (key i h).choose else default, fun i h => ?_⟩
      simp only [h, dif_pos]
      exact (key i h).choose_spec
    refine ⟨some a, cap, (List.range len).map g, by simpa using h1, by unfold maxLen at hm; simp; omega, fun x hx => ?_, ⟨fun h => by (cases h), fun b hb j u hu => ?_⟩, fun h => by (cases h), by simpa using hl, by unfold maxLen at hm; exact hm⟩
    · obtain ⟨i, hi2, rfl⟩ := List.mem_map.1 hx
      exact (hg i (List.mem_range.1 hi2)).2
    · cases hb
      obtain ⟨q, h2, h3⟩ := flat_at hs hcl hu
      have hj : j / size < len := by
        have := (List.getElem?_eq_some_iff.1 h2).1
        simpa using this
      simp [hj] at h2
      subst h2
      have := (hg _ hj).1 (j % size) (Nat.mod_lt _ hs)
      rw [← h3, ← this, show j / size * size + j % size = j by rw [Nat.mul_comm]; exact Nat.div_add_mod _ _]

/-- A struct or an array that lies anywhere, read. -/
theorem run_loadAt_any {P : Program} {w : World} (a : Addr) (ty : TypeId) (cs : List Value) (d : TypeDesc) (hc : ∀ j v, cs[j]? = some v → w.cell? (a.add j) = some v)
    (hu : P.underlying ty = some d) (hd : (match d with | .struct _ | .array _ _ => true | _ => false) = true) (hi : (P.info? ty).map (·.size) = some cs.length) :
    (Instr.loadAt ty (.pointer (some a))).run P w = .ok (.agg cs.toArray) w := by
  have hl : (loadCells a cs.length).run P w = .ok cs.toArray w := run_loadCells_list (P := P) w a cs hc
  cases hq : P.info? ty with
  | none => simp [hq] at hi
  | some i =>
    have hs : i.size = cs.length := by simpa [hq] using hi
    have hagg : (isAgg ty).run P w = .ok true w := by
      unfold isAgg
      rw [Sem.run_bind, run_underlying hu w]
      cases d <;> simp_all
    simp [Instr.loadAt, Instr.sureAddr, loadVar, Sem.run_bind, hagg, sizeOf, typeInfo, hq, hs, hl]
theorem addr_add_add (a : Addr) (i j : Nat) : (a.add i).add j = a.add (i + j) := by
  unfold Addr.add
  by_cases h7 : i = 0 <;> by_cases h8 : j = 0 <;> simp [h7, h8, Nat.add_assoc]
/-- The cells of one of a row of structs. -/
theorem src_flat {α : Type} {w : World} {a : Addr} {cells : α → List Value} {size : Nat} (hcl : ∀ q, (cells q).length = size) : ∀ {l : List α} {i : Nat} {q : α}, (∀ j u, (l.flatMap cells)[j]? = some u → w.cell? (a.add j) = some u) → l[i]? = some q → ∀ j v, (cells q)[j]? = some v → w.cell? ((a.add (i * size)).add j) = some v := by
  intro l i q hs hq j v hv
  rw [addr_add_add]
  apply hs
  clear hs
  induction l generalizing i with
  | nil => simp at hq
  | cons p l ih =>
    rw [List.flatMap_cons]
    cases i with
    | zero =>
      simp at hq
      subst hq
      rw [Nat.zero_mul, Nat.zero_add, List.getElem?_append_left (List.getElem?_eq_some_iff.1 hv).1]
      exact hv
    | succ i =>
      rw [List.getElem?_append_right (by rw [hcl, Nat.add_mul]; omega), hcl, show (i + 1) * size + j - size = i * size + j by rw [Nat.add_mul]; omega]
      exact ih (by simpa using hq)
theorem drop_one {cs : List Value} {k : Nat} {v : Value} (h : (cs.drop k).take 1 = [v]) : cs[k]? = some v := by
  have := congrArg (fun l => l[0]?) h
  simpa [List.getElem?_take] using this
theorem list_of_four {cs : List Value} {a b c d : Value} (hl : cs.length = 4) (h0 : cs[0]? = some a) (h1 : cs[1]? = some b) (h2 : cs[2]? = some c) (h3 : cs[3]? = some d) : cs = [a, b, c, d] := by
  match cs, hl with
  | [x, y, z, u], _ => simp at h0 h1 h2 h3; rw [h0, h1, h2, h3]
theorem list_of_two {cs : List Value} {a b : Value} (hl : cs.length = 2) (h0 : cs[0]? = some a) (h1 : cs[1]? = some b) : cs = [a, b] := by
  match cs, hl with
  | [x, y], _ => simp at h0 h1; rw [h0, h1]
end Go.Proofs.YtfdhpjflkimihaaDoor
