/- Blocks of files as plain lists: sizes, counts, parts. No program here. No conditions beyond those that each statement types. -/
import Derived.Test.YtfdhpjflkimihaaDoorBase
namespace Go.Proofs.YtfdhpjflkimihaaDoor

def bszN (n : Nat) : Nat := if n ≤ 512 then 16 else if n ≤ 1024 then 32 else if n ≤ 2048 then 64 else if n ≤ 4096 then 128 else 0
def cntN (n : Nat) : Nat := if bszN n = 0 then 0 else (n + bszN n - 1) / bszN n
def bszZ (n : Int) : Nat := if n < 0 then 0 else bszN n.toNat
def cntZ (n : Int) : Nat := if n < 0 then 0 else cntN n.toNat
theorem bszN_big {n : Nat} (h : 4096 < n) : bszN n = 0 := by
  unfold bszN
  rw [if_neg (by omega), if_neg (by omega), if_neg (by omega), if_neg (by omega)]
theorem bszN_cases {n : Nat} (h : n ≤ 4096) : (bszN n = 16 ∧ n ≤ 512) ∨ (bszN n = 32 ∧ n ≤ 1024) ∨ (bszN n = 64 ∧ n ≤ 2048) ∨ bszN n = 128 := by
  unfold bszN
  by_cases h1 : n ≤ 512
  · rw [if_pos h1]; omega
  · rw [if_neg h1]
    by_cases h2 : n ≤ 1024
    · rw [if_pos h2]; omega
    · rw [if_neg h2]
      by_cases h3 : n ≤ 2048
      · rw [if_pos h3]; omega
      · rw [if_neg h3, if_pos h]; omega
theorem bszN_pos {n : Nat} (h : n ≤ 4096) : 0 < bszN n ∧ bszN n ≤ 128 ∧ n ≤ 32 * bszN n := by
  rcases bszN_cases h with h1 | h1 | h1 | h1 <;> omega
theorem bszN_le (n : Nat) : bszN n ≤ 128 := by
  rcases Nat.lt_or_ge 4096 n with h | h
  · rw [bszN_big h]; omega
  · exact (bszN_pos h).2.1
theorem cntN_big {n : Nat} (h : 4096 < n) : cntN n = 0 := by unfold cntN; rw [if_pos (bszN_big h)]
theorem cntN_eq {n : Nat} (h : n ≤ 4096) : cntN n = (n + bszN n - 1) / bszN n := by unfold cntN; rw [if_neg (by have := bszN_pos h; omega)]
/-- A block is a file's where it begins within the file. -/
theorem cntN_lt {n : Nat} (h : n ≤ 4096) (i : Nat) : i < cntN n ↔ i * bszN n < n := by
  rw [cntN_eq h]
  have hp := (bszN_pos h).1
  generalize bszN n = s at *
  rw [← Nat.succ_le_iff, Nat.le_div_iff_mul_le hp, Nat.succ_eq_add_one, Nat.add_mul, Nat.one_mul]
  omega
theorem cntN_le (n : Nat) : cntN n ≤ 32 := by
  rcases Nat.lt_or_ge 4096 n with h | h
  · rw [cntN_big h]; omega
  · obtain ⟨hp, _, hn⟩ := bszN_pos h
    rcases Nat.lt_or_ge 32 (cntN n) with h1 | h1
    · have := (cntN_lt h 32).1 h1
      omega
    · exact h1
/-- A block of a file. -/
def partL (l : List UInt8) (i : Nat) : List UInt8 := (l.drop (i * bszN l.length)).take (bszN l.length)
def partsL (l : List UInt8) : List (List UInt8) := (List.range (cntN l.length)).map (partL l)
theorem partL_length (l : List UInt8) (i : Nat) : (partL l i).length = min (bszN l.length) (l.length - i * bszN l.length) := by
  unfold partL
  rw [List.length_take, List.length_drop]
theorem partsL_length (l : List UInt8) : (partsL l).length = cntN l.length := by simp [partsL]
theorem partsL_get {l : List UInt8} {i : Nat} (h : i < cntN l.length) : (partsL l)[i]? = some (partL l i) := by simp [partsL, h]
theorem parts_to (l : List UInt8) : ∀ k, ((List.range k).map (partL l)).flatten = l.take (k * bszN l.length)
  | 0 => by simp
  | k + 1 => by
    rw [List.range_succ, List.map_append, List.flatten_append, parts_to l k]
    simp only [List.map_cons, List.map_nil, List.flatten_cons, List.flatten_nil, List.append_nil]
    unfold partL
    rw [Nat.add_mul, Nat.one_mul, List.take_add]
theorem parts_join {l : List UInt8} (h : l.length ≤ 4096) : (partsL l).flatten = l := by
  unfold partsL
  rw [parts_to]
  refine List.take_of_length_le ?_
  have := cntN_lt h (cntN l.length)
  omega
end Go.Proofs.YtfdhpjflkimihaaDoor
