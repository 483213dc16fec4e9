/- A text whose bytes all stand behind a backslash: what it says, what it matches. No program here. No conditions beyond those that each statement types. -/
import Derived.Test.YtnbeamggbehclaaGlobP
namespace Go.Proofs.Ytnbeamggbehclaa

def esc (c : UInt8) : List UInt8 := if c = 47 then [47] else [92, c]
def plainL (l : List UInt8) : List UInt8 := 47 :: l.flatMap esc
theorem esc_len (c : UInt8) : 0 < (esc c).length ∧ (esc c).length ≤ 2 := by
  unfold esc
  split <;> simp
theorem flat_len : ∀ l : List UInt8, (l.flatMap esc).length ≤ 2 * l.length
  | [] => by simp
  | c :: r => by
    rw [List.flatMap_cons, List.length_append, List.length_cons]
    have := flat_len r
    have := (esc_len c).2
    omega
theorem elem1_esc (c : UInt8) (r : List UInt8) : elem1 (esc c ++ r) = some (.byt c, r) := by
  unfold esc
  by_cases h : c = 47
  · subst h
    rfl
  · rw [if_neg h]
    have e : elem1 (92 :: c :: r) = match one1 (92 :: c :: r) with
      | none => none
      | some (d, n) => some (El.byt d, (92 :: c :: r).drop n) := rfl
    show elem1 (92 :: c :: r) = _
    rw [e, one1_cons, if_neg (by decide), if_pos rfl]
    simp only [if_neg h]
    rfl
theorem elsOf_esc : ∀ (l : List UInt8) (acc : List El), elsOf (l.flatMap esc) acc = some (acc ++ l.map .byt)
  | [], acc => by rw [elsOf_eq]; simp
  | c :: r, acc => by
    rw [elsOf_eq, List.flatMap_cons, if_neg (by rw [List.length_append]; have := (esc_len c).1; omega), elem1_esc]
    simp only
    rw [elsOf_esc r]
    simp
theorem mark1_plain (r : List UInt8) : mark1 (47 :: r) = none := rfl
theorem parse_plain (l : List UInt8) (h0 : l ≠ []) (h60 : l.length ≤ 60) : parse (plainL l) = .pat ⟨false, false, false⟩ true (l.map .byt) := by
  have hf := flat_len l
  have hpos : (l.flatMap esc).length ≠ 0 := by
    cases l with
    | nil => exact absurd rfl h0
    | cons c r => rw [List.flatMap_cons, List.length_append]; have := (esc_len c).1; omega
  have hp : pre [47] (47 :: l.flatMap esc) = true := by simp [pre, List.isPrefixOf]
  unfold parse plainL
  rw [if_neg (by rw [List.length_cons]; omega), marksOf_eq, mark1_plain]
  simp only
  rw [hp, if_pos rfl, List.drop_one, List.tail_cons, if_neg hpos, elsOf_esc]
  simp only [List.nil_append]
theorem mat_plain : ∀ (l t : List UInt8), mat false (l.map .byt) t = (t == l)
  | [], t => by cases t <;> rfl
  | c :: r, t => by
    cases t with
    | nil => rfl
    | cons d u =>
      have e : mat false ((c :: r).map .byt) (d :: u) = ((d == c || false) && mat false (r.map .byt) u) := rfl
      rw [e, mat_plain r u, Bool.or_false]
      rfl
theorem matchP_plain (l path : List UInt8) (hp : path.length ≤ 160) : matchP false true (l.map .byt) path = (path == l || pre (l ++ [47]) path) := by
  rw [Bool.eq_iff_iff, matchP_iff, Bool.or_eq_true, beq_iff_eq, pre, List.isPrefixOf_iff_prefix]
  constructor
  · rintro ⟨-, a, b, hab, hb, hf, he, hm⟩
    have ha : a = 0 := by simpa [fromOk] using hf
    subst ha
    rw [mat_plain, beq_iff_eq] at hm
    have hm' : path.take b = l := by simpa [seg] using hm
    unfold endOk at he
    rw [Bool.or_eq_true, beq_iff_eq, beq_iff_eq] at he
    rcases he with he | he
    · left; rw [← hm', he, List.take_length]
    · right
      rw [← hm', List.prefix_iff_eq_take]
      have hlt : b < path.length := by
        rcases Nat.lt_or_ge b path.length with h | h
        · exact h
        · rw [List.getElem?_eq_none h] at he; cases he
      rw [List.length_append, List.length_take, Nat.min_eq_left (by omega), List.length_singleton, List.take_add_one, he]
      rfl
  · rintro (rfl | h)
    · exact ⟨hp, 0, path.length, by omega, by omega, rfl, by simp [endOk], by rw [mat_plain]; simp [seg]⟩
    · obtain ⟨q, rfl⟩ := h
      refine ⟨hp, 0, l.length, by omega, by simp, rfl, ?_, by rw [mat_plain]; simp [seg]⟩
      unfold endOk
      rw [List.append_assoc, List.getElem?_append_right (by omega), Nat.sub_self]
      simp
end Go.Proofs.Ytnbeamggbehclaa
