/- What a pattern's text says: ranges, classes, elements, the whole. No program here. No conditions beyond those that each statement types. -/
import Derived.Test.YtnbeamggbehclaaGlobC
namespace Go.Proofs.Ytnbeamggbehclaa

def dash (l : List UInt8) : Bool := decide (1 < l.length) && (l.getD 0 0 == 45 && l.getD 1 0 != 93)
/-- The first range of a class's text, and how long it is. -/
def range1 (l : List UInt8) : Option ((UInt8 × UInt8) × Nat) :=
  match one1 l with
  | none => none
  | some (a, n) => if dash (l.drop n) then (match one1 (l.drop (n + 1)) with
      | none => none
      | some (b, m) => if b < a then none else some ((a, b), n + (1 + m))) else some ((a, a), n)
theorem one1_pos {l : List UInt8} {a : UInt8} {n : Nat} (h : one1 l = some (a, n)) : 0 < n ∧ n ≤ l.length := by
  cases l with
  | nil => cases h
  | cons c r =>
    rw [one1_cons] at h
    split at h
    · cases h
    · split at h
      · cases r with
        | nil => cases h
        | cons d r =>
          simp only at h
          split at h
          · cases h
          · cases h; simp
      · cases h; simp
theorem range1_none {l : List UInt8} (h : one1 l = none) : range1 l = none := by unfold range1; rw [h]
theorem range1_single {l : List UInt8} {x : UInt8} {m : Nat} (h : one1 l = some (x, m)) (hd : dash (l.drop m) = false) : range1 l = some ((x, x), m) := by
  unfold range1; rw [h]; simp only [hd, Bool.false_eq_true, if_false]
theorem range1_open {l : List UInt8} {x : UInt8} {m : Nat} (h : one1 l = some (x, m)) (hd : dash (l.drop m) = true) (h2 : one1 (l.drop (m + 1)) = none) : range1 l = none := by
  unfold range1; rw [h]; simp only [hd, if_true, h2]
theorem range1_turned {l : List UInt8} {x y : UInt8} {m n : Nat} (h : one1 l = some (x, m)) (hd : dash (l.drop m) = true) (h2 : one1 (l.drop (m + 1)) = some (y, n)) (hlt : y < x) : range1 l = none := by
  unfold range1; rw [h]; simp only [hd, if_true, h2, hlt]
theorem range1_pair {l : List UInt8} {x y : UInt8} {m n : Nat} (h : one1 l = some (x, m)) (hd : dash (l.drop m) = true) (h2 : one1 (l.drop (m + 1)) = some (y, n)) (hlt : ¬ y < x) : range1 l = some ((x, y), m + (1 + n)) := by
  unfold range1; rw [h]; simp only [hd, if_true, h2, hlt, if_false]
theorem range1_pos {l : List UInt8} {r : UInt8 × UInt8} {n : Nat} (h : range1 l = some (r, n)) : 0 < n ∧ n ≤ l.length := by
  unfold range1 at h
  split at h
  · cases h
  · rename_i a k hk
    have h1 := one1_pos hk
    split at h
    · split at h
      · cases h
      · rename_i b m hm
        have h2 := one1_pos hm
        rw [List.length_drop] at h2
        split at h
        · cases h
        · cases h
          omega
    · cases h
      exact h1
def shut (l : List UInt8) : Bool := l.length == 0 || l.getD 0 0 == 93
def rangesF : Nat → List UInt8 → List (UInt8 × UInt8) → Option (List (UInt8 × UInt8) × List UInt8)
  | 0, l, acc => some (acc, l)
  | k + 1, l, acc => if shut l then some (acc, l) else match range1 l with
    | none => none
    | some (r, n) => rangesF k (l.drop n) (acc ++ [r])
def rangesOf (l : List UInt8) (acc : List (UInt8 × UInt8)) : Option (List (UInt8 × UInt8) × List UInt8) := rangesF (l.length + 1) l acc
theorem rangesF_more : ∀ (k j : Nat) (l : List UInt8) (acc : List (UInt8 × UInt8)), l.length < k → l.length < j → rangesF k l acc = rangesF j l acc
  | 0, _, l, _, h, _ => by omega
  | _, 0, l, _, _, h => by omega
  | k + 1, j + 1, l, acc, hk, hj => by
    rw [rangesF, rangesF]
    split
    · rfl
    · cases hm : range1 l with
      | none => rfl
      | some x =>
        obtain ⟨r, n⟩ := x
        have := range1_pos hm
        exact rangesF_more k j _ _ (by rw [List.length_drop]; omega) (by rw [List.length_drop]; omega)
theorem rangesOf_eq (l : List UInt8) (acc : List (UInt8 × UInt8)) : rangesOf l acc = if shut l then some (acc, l) else match range1 l with
    | none => none
    | some (r, n) => rangesOf (l.drop n) (acc ++ [r]) := by
  rw [rangesOf, rangesF]
  split
  · rfl
  · cases hm : range1 l with
    | none => rfl
    | some x =>
      obtain ⟨r, n⟩ := x
      have := range1_pos hm
      exact rangesF_more _ _ _ _ (by rw [List.length_drop]; omega) (by omega)
theorem rangesF_len : ∀ (k : Nat) (l : List UInt8) (acc rs : List (UInt8 × UInt8)) (r : List UInt8), rangesF k l acc = some (rs, r) → r.length ≤ l.length
  | 0, l, acc, rs, r, h => by cases h; exact Nat.le_refl _
  | k + 1, l, acc, rs, r, h => by
    rw [rangesF] at h
    split at h
    · cases h; exact Nat.le_refl _
    · split at h
      · cases h
      · have := rangesF_len k _ _ _ _ h
        rw [List.length_drop] at this
        omega
/-- A class's text behind its bracket: the class, and what is behind it. -/
def class1 (l : List UInt8) : Option (El × List UInt8) :=
  match rangesOf (if pre [33] l then l.drop 1 else l) [] with
  | none => none
  | some (rs, r) => if r.length = 0 ∨ rs.length = 0 then none else some (.set (pre [33] l) rs, r.drop 1)
/-- The first element of a text (that has one byte at least), and what is behind it. -/
def elem1 (l : List UInt8) : Option (El × List UInt8) :=
  if pre [42, 42] l then some (.all, l.drop 2)
  else if l.getD 0 0 = 42 then some (.some, l.drop 1)
  else if l.getD 0 0 = 63 then some (.any, l.drop 1)
  else if l.getD 0 0 = 47 then some (.byt 47, l.drop 1)
  else if l.getD 0 0 = 91 then class1 (l.drop 1)
  else match one1 l with
    | none => none
    | some (c, n) => some (.byt c, l.drop n)
theorem class1_len {l : List UInt8} {x : El} {r : List UInt8} (h : class1 l = some (x, r)) : r.length < l.length := by
  unfold class1 at h
  split at h
  · cases h
  · rename_i rs r' hr
    have h1 := rangesF_len _ _ _ _ _ hr
    have h2 : (if pre [33] l then l.drop 1 else l).length ≤ l.length := by
      split
      · rw [List.length_drop]; omega
      · exact Nat.le_refl _
    split at h
    · cases h
    · rename_i hn
      cases h
      rw [List.length_drop]
      omega
theorem elem1_len {l : List UInt8} {x : El} {r : List UInt8} (hl : 0 < l.length) (h : elem1 l = some (x, r)) : r.length < l.length := by
  unfold elem1 at h
  split at h
  · rename_i hp
    have := pre_len hp
    cases h
    rw [List.length_drop]
    simp at this
    omega
  · split at h
    · cases h; rw [List.length_drop]; omega
    · split at h
      · cases h; rw [List.length_drop]; omega
      · split at h
        · cases h; rw [List.length_drop]; omega
        · split at h
          · have := class1_len h
            rw [List.length_drop] at this
            omega
          · split at h
            · cases h
            · rename_i c n hn
              have := one1_pos hn
              cases h
              rw [List.length_drop]
              omega
def elsF : Nat → List UInt8 → List El → Option (List El)
  | 0, _, acc => some acc
  | k + 1, l, acc => if l.length = 0 then some acc else match elem1 l with
    | none => none
    | some (x, r) => elsF k r (acc ++ [x])
def elsOf (l : List UInt8) (acc : List El) : Option (List El) := elsF (l.length + 1) l acc
theorem elsF_more : ∀ (k j : Nat) (l : List UInt8) (acc : List El), l.length < k → l.length < j → elsF k l acc = elsF j l acc
  | 0, _, l, _, h, _ => by omega
  | _, 0, l, _, _, h => by omega
  | k + 1, j + 1, l, acc, hk, hj => by
    rw [elsF, elsF]
    split
    · rfl
    · rename_i hl
      cases hm : elem1 l with
      | none => rfl
      | some x =>
        obtain ⟨x, r⟩ := x
        have := elem1_len (by omega) hm
        exact elsF_more k j _ _ (by omega) (by omega)
theorem elsOf_eq (l : List UInt8) (acc : List El) : elsOf l acc = if l.length = 0 then some acc else match elem1 l with
    | none => none
    | some (x, r) => elsOf r (acc ++ [x]) := by
  rw [elsOf, elsF]
  split
  · rfl
  · rename_i hl
    cases hm : elem1 l with
    | none => rfl
    | some x =>
      obtain ⟨x, r⟩ := x
      have := elem1_len (by omega) hm
      exact elsF_more _ _ _ _ (by omega) (by omega)

/-- What a text says, as a pattern. -/
inductive Said where
  | long
  | form
  | pat (m : Mk) (root : Bool) (els : List El)
def parse (l : List UInt8) : Said :=
  if 128 < l.length then .long else match marksOf l ⟨false, false, false⟩ with
  | none => .form
  | some (m, r) => if (if pre [47] r then r.drop 1 else r).length = 0 then .form else match elsOf (if pre [47] r then r.drop 1 else r) [] with
    | none => .form
    | some els => .pat m (pre [47] r) els
end Go.Proofs.Ytnbeamggbehclaa
