/- What is, New, Write and Len of the package sha do to memory; bytes that are eaten one by one. No conditions beyond those that each statement types. -/
import Derived.Test.YtfdhpjflkimihaaDoorShaB0
import Derived.Laws.CopyOwn
namespace Go.Proofs.YtfdhpjflkimihaaDoor
open Go.RowKit

/-- A byte more. -/
def SS.put (s : SS) (c : UInt8) : SS := { s with rs := fun i => if i = s.n % 64 then c else s.rs i, n := s.n + 1 }
def SS.push (s : SS) (c : UInt8) : SS := if s.n % 64 = 63 then (s.put c).block else s.put c
def SS.eat (s : SS) (l : List UInt8) : SS := l.foldl SS.push s
def SS.fill (s : SS) (l : List UInt8) : SS := { s with rs := fun i => if s.n % 64 ≤ i ∧ i < s.n % 64 + l.length then l.getD (i - s.n % 64) 0 else s.rs i, n := s.n + l.length }

theorem SS.block_n (s : SS) : s.block.n = s.n := rfl
theorem SS.push_n (s : SS) (c : UInt8) : (s.push c).n = s.n + 1 := by
  unfold SS.push
  split <;> rfl
theorem SS.eat_n (s : SS) (l : List UInt8) : (s.eat l).n = s.n + l.length := by
  induction l generalizing s with
  | nil => rfl
  | cons c l ih =>
    show ((s.push c).eat l).n = _
    rw [ih, SS.push_n, List.length_cons]; omega
theorem SS.eat_append (s : SS) (a b : List UInt8) : s.eat (a ++ b) = (s.eat a).eat b := List.foldl_append
theorem SS.eat_snoc (s : SS) (a : List UInt8) (c : UInt8) : s.eat (a ++ [c]) = (s.eat a).push c := by rw [SS.eat_append]; rfl

theorem SS.fill_snoc (s : SS) (a : List UInt8) (c : UInt8) (h : s.n % 64 + a.length < 64) : (s.fill a).put c = s.fill (a ++ [c]) := by
  have hm : (s.n + a.length) % 64 = s.n % 64 + a.length := by omega
  unfold SS.put SS.fill
  dsimp only
  rw [hm, List.length_append, List.length_singleton]
  simp only [SS.mk.injEq, true_and]
  refine ⟨funext fun i => ?_, by omega⟩
  by_cases hi : i = s.n % 64 + a.length
  · subst hi
    rw [if_pos rfl, if_pos (by omega), Nat.add_sub_cancel_left]
    simp
  · rw [if_neg hi]
    by_cases h2 : s.n % 64 ≤ i ∧ i < s.n % 64 + a.length
    · rw [if_pos h2, if_pos (by omega), List.getD_eq_getElem?_getD, List.getD_eq_getElem?_getD, List.getElem?_append_left (by omega)]
    · rw [if_neg h2, if_neg (by omega)]

theorem SS.eat_small (s : SS) (l : List UInt8) : ∀ k, k ≤ l.length → s.n % 64 + k < 64 → s.eat (l.take k) = s.fill (l.take k)
  | 0, _, _ => by
    show s = _
    unfold SS.fill
    have e : (fun i => if s.n % 64 ≤ i ∧ i < s.n % 64 + (l.take 0).length then (l.take 0).getD (i - s.n % 64) 0 else s.rs i) = s.rs := funext fun i => if_neg (by rw [List.take_zero, List.length_nil]; omega)
    rw [e]
    rfl
  | k + 1, hk, hs => by
    have ih := s.eat_small l k (by omega) (by omega)
    have hl : (l.take k).length = k := by rw [List.length_take]; omega
    rw [List.take_succ_eq_append_getElem (by omega), SS.eat_snoc, ih, SS.push, ← SS.fill_snoc s _ _ (by rw [hl]; omega), if_neg]
    show ¬ (s.n + (l.take k).length) % 64 = 63
    rw [hl]; omega

theorem SS.eat_fill (s : SS) (l : List UInt8) (h : s.n % 64 + l.length ≤ 64) : s.eat l = if s.n % 64 + l.length = 64 then (s.fill l).block else s.fill l := by
  by_cases he : s.n % 64 + l.length = 64
  · rw [if_pos he]
    obtain ⟨k, hk⟩ : ∃ k, l.length = k + 1 := ⟨l.length - 1, by omega⟩
    have hl : (l.take k).length = k := by rw [List.length_take]; omega
    have h1 : l = l.take k ++ [l[k]] := by rw [← List.take_succ_eq_append_getElem (by omega), List.take_of_length_le (by omega)]
    have h2 : s.eat l = (s.eat (l.take k)).push l[k] := by rw [← SS.eat_snoc, ← h1]
    have h3 : (s.fill (l.take k)).put l[k] = s.fill l := by rw [SS.fill_snoc s _ _ (by rw [hl]; omega), ← h1]
    rw [h2, s.eat_small l k (by omega) (by omega), SS.push, if_pos, h3]
    show (s.n + (l.take k).length) % 64 = 63
    rw [hl]; omega
  · rw [if_neg he]
    have := s.eat_small l l.length (Nat.le_refl _) (by omega)
    rwa [List.take_of_length_le (Nat.le_refl _)] at this

theorem SS.fill_cells (s : SS) (l : List UInt8) (h : s.n % 64 + l.length ≤ 64) :
    ((s.cells.toList.take (8 + s.n % 64) ++ (bvs l ++ s.cells.toList.drop (8 + s.n % 64 + (bvs l).length))).toArray).setIfInBounds 72 (.int .i64 ((s.n + l.length : Nat) : Int)) = (s.fill l).cells := by
  have hsz : s.cells.toList.length = 74 := by simp [SS.cells, cut_size]
  have hat : ∀ j, j < 74 → s.cells.toList[j]? = some (s.cell j) := fun j hj => by
    rw [Array.getElem?_toList, SS.cells, cut_get _ _ _ _ hj, Nat.zero_add]
  apply Array.ext_getElem?
  intro j
  by_cases hj : j < 74
  · rw [show (s.fill l).cells[j]? = some ((s.fill l).cell j) from by rw [SS.cells, cut_get _ _ _ _ hj, Nat.zero_add]]
    by_cases h72 : j = 72
    · subst h72
      rw [Array.getElem?_setIfInBounds_self_of_lt]
      · rfl
      · simp [hsz, bvs_length]; omega
    · rw [Array.getElem?_setIfInBounds_ne (fun e => h72 e.symm), List.getElem?_toArray]
      by_cases h1 : j < 8 + s.n % 64
      · rw [List.getElem?_append_left (by rw [List.length_take, hsz]; omega), List.getElem?_take, if_pos h1, hat j hj]
        congr 1
        unfold SS.cell SS.fill
        dsimp only
        by_cases h8 : j < 8
        · rw [if_pos h8, if_pos h8]
        · rw [if_neg h8, if_pos (by omega), if_neg h8, if_pos (by omega), if_neg (by omega)]
      · rw [List.getElem?_append_right (by rw [List.length_take, hsz]; omega), List.length_take, hsz, Nat.min_eq_left (by omega)]
        by_cases h2 : j < 8 + s.n % 64 + l.length
        · rw [List.getElem?_append_left (by rw [bvs_length]; omega)]
          have hk : j - (8 + s.n % 64) < l.length := by omega
          rw [bvs, List.getElem?_map, List.getElem?_eq_getElem hk]
          show some _ = some _
          congr 1
          unfold SS.cell SS.fill
          dsimp only
          rw [if_neg (by omega), if_pos (by omega), if_pos (by omega), List.getD_eq_getElem?_getD, show j - 8 - s.n % 64 = j - (8 + s.n % 64) by omega, List.getElem?_eq_getElem hk]
          rfl
        · rw [List.getElem?_append_right (by rw [bvs_length]; omega), bvs_length, List.getElem?_drop, show 8 + s.n % 64 + l.length + (j - (8 + s.n % 64) - l.length) = j by omega, hat j hj]
          congr 1
          unfold SS.cell SS.fill
          dsimp only
          by_cases h3 : j < 72
          · rw [if_neg (by omega), if_pos h3, if_neg (by omega), if_pos h3, if_neg (by omega)]
          · rw [if_neg (by omega), if_neg h3, if_neg h72, if_neg (by omega), if_neg h3, if_neg h72]
  · rw [Array.getElem?_eq_none (by simp [hsz, bvs_length]; omega), Array.getElem?_eq_none (by rw [SS.cells, cut_size]; omega)]

end Go.Proofs.YtfdhpjflkimihaaDoor
