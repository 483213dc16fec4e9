/- A byte stored into a row of the call's own; blocks of bytes of which one is changed. No conditions beyond those that each statement types. -/
import Derived.Test.YtfdhpjflkimihaaDoorBkY
namespace Go.Proofs.YtfdhpjflkimihaaDoor
open Go.RowKit

/-- A row whose cells may be written, one by one. -/
theorem ownsRow_rowIs {w : World} {e : TypeId} {g n c size : Nat} {xs : List Value} (h : w.ownsRow 0 e size (.slice (some ⟨g, 0, none⟩) n c) n xs) :
    ∃ f : Nat → Value, w.rowIs g e (c * size) f ∧ (∀ i u, xs[i]? = some u → f i = u) ∧ n ≤ c ∧ c ≤ maxLen ∧ xs.length = n * size := by
  rcases h.2 with ⟨h0, _⟩ | ⟨g', cap, cur, hv, _, hg, h1, h2, h3, h4⟩
  · cases h0
  · cases hv
    refine ⟨fun x => cur[x]?.getD default, ⟨cur, hg, h3, fun i hi => by simp [show i < cur.size by omega]⟩, fun x u hu => ?_, h1, h2, h.1⟩
    rw [← h4, List.getElem?_take] at hu
    split at hu
    · show cur[x]?.getD default = u
      rw [← Array.getElem?_toList, hu]
      rfl
    · cases hu
theorem rowIs_owns {w : World} {e : TypeId} {g n c size : Nat} {xs : List Value} {f : Nat → Value} (h : w.rowIs g e (c * size) f) (hx : ∀ i u, xs[i]? = some u → f i = u) (hn : n ≤ c) (hc : c ≤ maxLen) (hl : xs.length = n * size) :
    w.ownsRow 0 e size (.slice (some ⟨g, 0, none⟩) n c) n xs := by
  obtain ⟨cc, hb, hs, hv⟩ := h
  have hle : n * size ≤ c * size := Nat.mul_le_mul_right _ hn
  refine ⟨hl, .inr ⟨g, c, cc, rfl, Nat.zero_le _, hb, hn, hc, hs, ?_⟩⟩
  apply List.ext_getElem?
  intro y
  rw [List.getElem?_take]
  by_cases hy : y < n * size
  · rw [if_pos hy, Array.getElem?_toList, hv y (by omega)]
    obtain ⟨u, hu⟩ : ∃ u, xs[y]? = some u := ⟨_, List.getElem?_eq_getElem (by omega)⟩
    rw [hu, hx y u hu]
  · rw [if_neg hy, List.getElem?_eq_none (by omega)]
theorem ownsRow_set1 {w : World} {e : TypeId} {g n c : Nat} {xs : List Value} (h : w.ownsRow 0 e 1 (.slice (some ⟨g, 0, none⟩) n c) n xs) {k : Nat} (u : Value) :
    (w.setCell ⟨g, k, none⟩ u).ownsRow 0 e 1 (.slice (some ⟨g, 0, none⟩) n c) n (xs.set k u) := by
  obtain ⟨f, hr, hf, hn, hc, hl⟩ := ownsRow_rowIs h
  have := rowIs_setCells [u] k w f hr
  refine rowIs_owns (f := _) this (fun i v hv => ?_) hn hc (by rw [List.length_set]; exact hl)
  rw [List.getElem?_set] at hv
  show (if _ then _ else _) = v
  split at hv
  · rename_i e
    subst e
    split at hv
    · cases hv
      rw [if_pos ⟨Nat.le_refl _, by simp⟩]
      simp
    · cases hv
  · rename_i e
    rw [if_neg (by simp; omega)]
    exact hf i v hv
theorem ownsRow_cell1 {w : World} {e : TypeId} {g n c : Nat} {xs : List Value} (h : w.ownsRow 0 e 1 (.slice (some ⟨g, 0, none⟩) n c) n xs) {k : Nat} {u : Value} (hk : xs[k]? = some u) :
    w.cell? ⟨g, k, none⟩ = some u ∧ w.frozen? ⟨g, k, none⟩ = false := by
  obtain ⟨f, hr, hf, hn, hc, hl⟩ := ownsRow_rowIs h
  have hlt := (List.getElem?_eq_some_iff.1 hk).1
  exact ⟨by rw [hr.cell (i := k) (by omega), hf k u hk], hr.frozen _⟩
theorem bvs_set (l : List UInt8) (k : Nat) (x : UInt8) : (bvs l).set k (bv x) = bvs (l.set k x) := by
  unfold bvs
  rw [List.map_set]
theorem part_set {l : List UInt8} {k i : Nat} (x : UInt8) (hB : 0 < bszN l.length) (h : i ≠ k / bszN l.length) : partL (l.set k x) i = partL l i := by
  unfold partL
  rw [List.length_set]
  generalize bszN l.length = B at *
  apply List.ext_getElem?
  intro j
  rw [List.getElem?_take, List.getElem?_take]
  split
  · rename_i hj
    rw [List.getElem?_drop, List.getElem?_drop, List.getElem?_set]
    split
    · rename_i hk
      exfalso
      apply h
      rw [hk, Nat.mul_comm, Nat.mul_add_div hB, Nat.div_eq_of_lt hj, Nat.add_zero]
    · rfl
  · rfl
theorem list_set {l : List UInt8} {k i : Nat} (x : UInt8) (hB : 0 < bszN l.length) (h : i ≠ k / bszN l.length) (hi : i < cntN l.length) : (listL (l.set k x))[i]? = (listL l)[i]? := by
  have hi' : i < cntN (l.set k x).length := by rw [List.length_set]; exact hi
  rw [listL, listL, List.getElem?_map, List.getElem?_map, partsL_get hi, partsL_get hi', part_set x hB h]
end Go.Proofs.YtfdhpjflkimihaaDoor
