/- General lemmas, of no program: rows that a call owns, blocks old and new. No conditions beyond those that each statement types. -/
import Derived.Test.YtnbeamggbehclaaRow
namespace Go.Proofs.Ytnbeamggbehclaa
open Go.RowKit

theorem ownsRow_head {w : World} {B : Nat} {e : TypeId} {size : Nat} {ao : Option Addr} {n c : Nat} {xs : List Value} (h : w.ownsRow B e size (.slice ao n c) n xs) (hn : 0 < n) : ∃ g, ao = some ⟨g, 0, none⟩ := by
  rcases h.2 with ⟨hv, h0⟩ | ⟨g, cap, cur, hv, _⟩
  · omega
  · simp only [Value.slice.injEq] at hv
    exact ⟨g, hv.1⟩
theorem ownsRow_src4 {w : World} {B : Nat} {e : TypeId} {size : Nat} {ao : Option Addr} {n c : Nat} {xs : List Value} (h : w.ownsRow B e size (.slice ao n c) n xs) : Src w ao xs := by
  refine ⟨fun ha => ?_, fun a ha j u hu => ?_⟩
  · subst ha
    rcases h.2 with ⟨hv, hn⟩ | ⟨g, cap, cur, hv, _⟩
    · exact List.eq_nil_of_length_eq_zero (by rw [h.1, hn]; simp)
    · simp at hv
  · subst ha
    rcases h.2 with ⟨hv, hn⟩ | ⟨g, cap, cur, hv, _⟩
    · simp at hv
    · simp only [Value.slice.injEq, Option.some.injEq] at hv
      obtain ⟨rfl, _, _⟩ := hv
      exact h.cells (g := g) rfl j u hu
theorem heap_old {w : World} {k : Nat} {x : Obj} (o : Obj) (h : w.heap[k]? = some x) : (w.alloc o).heap[k]? = some x := (Below.heap_alloc w o k (by
  rcases Nat.lt_or_ge k w.heap.size with h1 | h1
  · exact h1
  · rw [Array.getElem?_eq_none h1] at h; cases h)).trans h
theorem heap_new {w : World} {k : Nat} (o : Obj) (h : w.heap.size = k) : (w.alloc o).heap[k]? = some o := by subst h; exact heap_alloc_new w o
end Go.Proofs.Ytnbeamggbehclaa
