/- Small lemmas of parts and rows. No conditions beyond those that each statement types. -/
import Derived.Test.YtfdhpjflkimihaaDoorBkV
import Derived.Test.YtfdhpjflkimihaaDoorBkQ
import Derived.Test.YtfdhpjflkimihaaDoorRowKit
import Derived.Test.YtfdhpjflkimihaaDoorZeros
namespace Go.Proofs.YtfdhpjflkimihaaDoor
open Go.RowKit

theorem part_pos {l : List UInt8} {k : Nat} (hl : l.length ≤ 4096) (hk : k < cntN l.length) : 0 < (partL l k).length ∧ (partL l k).length ≤ bszN l.length ∧ (k + 1 < cntN l.length → (partL l k).length = bszN l.length) := by
  have h1 := partL_length l k
  have h2 := (cntN_lt hl k).1 hk
  have h3 := bszN_pos hl
  refine ⟨by omega, by omega, fun h => ?_⟩
  have h4 := (cntN_lt hl (k + 1)).1 h
  rw [Nat.add_mul, Nat.one_mul] at h4
  omega
theorem self_same (f : Nat → UInt8) : sameHash f f = true := by
  unfold sameHash
  rw [List.all_eq_true]
  intro i _
  simp
theorem ownsRow_rowIs {w : World} {e : TypeId} {g n c size : Nat} {xs : List Value} (h : w.ownsRow 0 e size (.slice (some ⟨g, 0, none⟩) n c) n xs) :
    ∃ f : Nat → Value, w.rowIs g e (c * size) f ∧ (∀ i u, xs[i]? = some u → f i = u) ∧ n ≤ c ∧ c ≤ maxLen ∧ xs.length = n * size := by
  rcases h.2 with ⟨h0, _⟩ | ⟨g', cap, cur, hv, _, hg, h1, h2, h3, h4⟩
  · cases h0
  · cases hv
    refine ⟨fun x => cur[x]?.getD default, ⟨cur, hg, h3, fun i hi => by simp [show i < cur.size by omega]⟩, fun x u hu => ?_, h1, h2, h.1⟩
    rw [← h4, List.getElem?_take] at hu
    split at hu
    · show cur[x]?.getD default = u
      rw [← Array.getElem?_toList, hu]
      rfl
    · cases hu
theorem ownsRow_cell1 {w : World} {e : TypeId} {g n c : Nat} {xs : List Value} (h : w.ownsRow 0 e 1 (.slice (some ⟨g, 0, none⟩) n c) n xs) {k : Nat} {u : Value} (hk : xs[k]? = some u) :
    w.cell? ⟨g, k, none⟩ = some u ∧ w.frozen? ⟨g, k, none⟩ = false := by
  obtain ⟨f, hr, hf, hn, hc, hl⟩ := ownsRow_rowIs h
  have hlt := (List.getElem?_eq_some_iff.1 hk).1
  exact ⟨by rw [hr.cell (i := k) (by omega), hf k u hk], hr.frozen _⟩
end Go.Proofs.YtfdhpjflkimihaaDoor
