/- What a pattern tells of itself; none and the empty one; the law's helpers of, form, of2. No conditions beyond those that each statement types. -/
import Derived.Test.YtnbeamggbehclaaGlobM
namespace Go.Proofs.Ytnbeamggbehclaa
open Go.RowKit

theorem elsF_ne : ∀ (k : Nat) (l : List UInt8) (acc r : List El), elsF k l acc = some r → acc.length ≤ r.length ∧ r.length ≤ acc.length + l.length
  | 0, l, acc, r, h => by cases h; exact ⟨Nat.le_refl _, by omega⟩
  | k + 1, l, acc, r, h => by
    rw [elsF] at h
    split at h
    · cases h; exact ⟨Nat.le_refl _, by omega⟩
    · rename_i hl
      cases hm : elem1 l with
      | none => rw [hm] at h; cases h
      | some x =>
        obtain ⟨x, q⟩ := x
        rw [hm] at h
        have := elem1_len (by omega) hm
        have h2 := elsF_ne k _ _ _ h
        rw [List.length_append, List.length_cons, List.length_nil] at h2
        omega
theorem elsOf_ne {l : List UInt8} {r : List El} (hl : l.length ≠ 0) (h : elsOf l [] = some r) : r ≠ [] ∧ r.length ≤ l.length := by
  rw [elsOf_eq, if_neg hl] at h
  cases hm : elem1 l with
  | none => rw [hm] at h; cases h
  | some x =>
    obtain ⟨x, q⟩ := x
    rw [hm] at h
    have h1 := elem1_len (by omega) hm
    have h2 := elsF_ne _ _ _ _ h
    simp only [List.nil_append, List.length_cons, List.length_nil] at h2
    exact ⟨fun e => by rw [e] at h2; simp at h2, by omega⟩
theorem marksOf_len {l r : List UInt8} {m m' : Mk} (h : marksOf l m = some (m', r)) : r.length ≤ l.length := marksF_len _ _ _ _ _ h
theorem parse_els {l : List UInt8} {m : Mk} {root : Bool} {els : List El} (h : parse l = .pat m root els) : els ≠ [] ∧ els.length ≤ 128 ∧ l.length ≤ 128 := by
  unfold parse at h
  split at h
  · cases h
  · rename_i h128
    split at h
    · cases h
    · rename_i m' r hm
      have hr := marksOf_len hm
      have h2 : (if pre [47] r then r.drop 1 else r).length ≤ r.length := by
        split
        · rw [List.length_drop]; omega
        · exact Nat.le_refl _
      generalize (if pre [47] r = true then List.drop 1 r else r) = q at h h2
      by_cases hl : q.length = 0
      · rw [if_pos hl] at h; cases h
      · rw [if_neg hl] at h
        cases he : elsOf q [] with
        | none => rw [he] at h; cases h
        | some els' =>
          rw [he] at h
          simp only [Said.pat.injEq] at h
          obtain ⟨-, -, rfl⟩ := h
          have := elsOf_ne hl he
          exact ⟨this.1, by omega, by omega⟩

/-- Whether a text's pattern tells yes. -/
def tells (s path : List UInt8) : Bool := match parse s with
  | .pat m root els => matchP m.fold root els path
  | _ => false
def isForm (s : List UInt8) : Bool := match parse s with
  | .form => true
  | _ => false

theorem glob_match_nil (s : ByteArray) (w : World) : Calls Try.prog 11 #[.pointer none, .string s] w fun e w' => e = .returned (.bool false) ∧ w' = w := by
  go_enter Try.func11, Try.ntmps11
  go_wp2_with fail
  go_ret
  exact ⟨rfl, rfl⟩
theorem glob_match_zero (b : Nat) (tx s : ByteArray) (n d f r : Bool) (w : World) (hP : PatAt w b ⟨tx, n, d, f, r, .slice none 0 0⟩) : Calls Try.prog 11 #[.pointer (some ⟨b, 0, none⟩), .string s] w fun e w' => e = .returned (.bool false) ∧ w' = w := by
  have c5 := hP.ev
  by_cases h160 : 160 < s.size
  · have h' : (160 : Int) < s.size := by omega
    go_enter Try.func11, Try.ntmps11
    go_wp2_with fail
    go_ret
    exact ⟨rfl, rfl⟩
  · have h' : ¬ (160 : Int) < s.size := by omega
    go_enter Try.func11, Try.ntmps11
    go_wp2_with fail
    go_ret
    exact ⟨rfl, rfl⟩
theorem glob_Negated (b : Nat) (p : PS) (w : World) (hP : PatAt w b p) : Calls Try.prog 18 #[.pointer (some ⟨b, 0, none⟩)] w fun e w' => e = .returned (.bool p.neg) ∧ w' = w := by
  have c := hP.neg
  go_enter Try.func18, Try.ntmps18
  go_wp2_with fail
  go_ret
  exact ⟨rfl, rfl⟩
theorem glob_Negated_nil (w : World) : Calls Try.prog 18 #[.pointer none] w fun e w' => e = .returned (.bool false) ∧ w' = w := by
  go_enter Try.func18, Try.ntmps18
  go_wp2_with fail
  go_ret
  exact ⟨rfl, rfl⟩
theorem glob_Deletable (b : Nat) (p : PS) (w : World) (hP : PatAt w b p) : Calls Try.prog 20 #[.pointer (some ⟨b, 0, none⟩)] w fun e w' => e = .returned (.bool p.del) ∧ w' = w := by
  have c := hP.del
  go_enter Try.func20, Try.ntmps20
  go_wp2_with fail
  go_ret
  exact ⟨rfl, rfl⟩
theorem glob_Deletable_nil (w : World) : Calls Try.prog 20 #[.pointer none] w fun e w' => e = .returned (.bool false) ∧ w' = w := by
  go_enter Try.func20, Try.ntmps20
  go_wp2_with fail
  go_ret
  exact ⟨rfl, rfl⟩
theorem glob_Folded (b : Nat) (p : PS) (w : World) (hP : PatAt w b p) : Calls Try.prog 16 #[.pointer (some ⟨b, 0, none⟩)] w fun e w' => e = .returned (.bool p.fold) ∧ w' = w := by
  have c := hP.fold
  go_enter Try.func16, Try.ntmps16
  go_wp2_with fail
  go_ret
  exact ⟨rfl, rfl⟩
theorem glob_Folded_nil (w : World) : Calls Try.prog 16 #[.pointer none] w fun e w' => e = .returned (.bool false) ∧ w' = w := by
  go_enter Try.func16, Try.ntmps16
  go_wp2_with fail
  go_ret
  exact ⟨rfl, rfl⟩
theorem glob_Rooted (b : Nat) (p : PS) (w : World) (hP : PatAt w b p) : Calls Try.prog 14 #[.pointer (some ⟨b, 0, none⟩)] w fun e w' => e = .returned (.bool p.root) ∧ w' = w := by
  have c := hP.root
  go_enter Try.func14, Try.ntmps14
  go_wp2_with fail
  go_ret
  exact ⟨rfl, rfl⟩
theorem glob_Rooted_nil (w : World) : Calls Try.prog 14 #[.pointer none] w fun e w' => e = .returned (.bool false) ∧ w' = w := by
  go_enter Try.func14, Try.ntmps14
  go_wp2_with fail
  go_ret
  exact ⟨rfl, rfl⟩
theorem glob_Text (b : Nat) (p : PS) (w : World) (hP : PatAt w b p) : Calls Try.prog 21 #[.pointer (some ⟨b, 0, none⟩)] w fun e w' => e = .returned (.string p.text) ∧ w' = w := by
  have c := hP.text
  go_enter Try.func21, Try.ntmps21
  go_wp2_with fail
  go_ret
  exact ⟨rfl, rfl⟩
theorem glob_Text_nil (w : World) : Calls Try.prog 21 #[.pointer none] w fun e w' => e = .returned (.string ByteArray.empty) ∧ w' = w := by
  go_enter Try.func21, Try.ntmps21
  go_wp2_with fail
  go_ret
  exact ⟨rfl, rfl⟩

theorem parsed_cases {w : World} {s : ByteArray} {e : Ending} {w' : World} (h : Parsed w s (parse s.data.toList) e w') :
    Chg [] w w' ∧ ((parse s.data.toList = .long ∧ e = .returned (.tuple #[.pointer none, .int .i64 3])) ∨ (parse s.data.toList = .form ∧ e = .returned (.tuple #[.pointer none, .int .i64 4])) ∨
      ∃ m root els b, parse s.data.toList = .pat m root els ∧ e = .returned (.tuple #[.pointer (some ⟨b, 0, none⟩), .int .i64 0]) ∧ PatIs w' b s m root els) := by
  obtain ⟨C, h⟩ := h
  refine ⟨C, ?_⟩
  cases hp : parse s.data.toList with
  | long => rw [hp] at h; exact .inl ⟨rfl, h⟩
  | form => rw [hp] at h; exact .inr (.inl ⟨rfl, h⟩)
  | pat m root els =>
    rw [hp] at h
    obtain ⟨b, h1, h2⟩ := h
    exact .inr (.inr ⟨m, root, els, b, rfl, h1, h2⟩)

set_option maxHeartbeats 4000000 in
theorem glob_of (s path : ByteArray) (w : World) : Calls Try.prog 23 #[.string s, .string path] w fun e w' => e = .returned (.bool (tells s.data.toList path.data.toList)) ∧ Chg [] w w' := by
  obtain ⟨R, hR⟩ : ∃ R, tells s.data.toList path.data.toList = R := ⟨_, rfl⟩
  rw [hR]
  unfold tells at hR
  go_enter Try.func23, Try.ntmps23
  go_wp2_with fail
  refine (glob_parse s w).mono ?_
  intro e w1 hpp
  obtain ⟨C1, ⟨hp, rfl⟩ | ⟨hp, rfl⟩ | ⟨m, root, els, b, hp, rfl, hP⟩⟩ := parsed_cases hpp
  all_goals clear hpp
  · rw [hp] at hR
    subst hR
    go_wp2_with fail
    go_ret
    exact ⟨rfl, C1⟩
  · rw [hp] at hR
    subst hR
    go_wp2_with fail
    go_ret
    exact ⟨rfl, C1⟩
  · rw [hp] at hR
    obtain ⟨h1, h2, -⟩ := parse_els hp
    have KM := Lib.hid (fun w2 (C : Chg [] w1 w2) => glob_match b s path m root els w2 (hP.chg C) (by omega) h1)
    have C1' := Lib.hid C1
    have HR := Lib.hid hR
    clear hP h1 h2 hp hR C1
    go_wp2_with fail
    refine (KM.out w1 (Chg.refl _ _)).mono ?_
    rintro e w2 ⟨rfl, C2⟩
    rw [HR.out]
    go_wp2_with fail
    go_ret
    exact ⟨rfl, C1'.out.trans C2 (by simp)⟩

def told (s path : List UInt8) (want : Bool) : Bool := match parse s with
  | .pat m root els => matchP m.fold root els path == want
  | _ => false
set_option maxHeartbeats 4000000 in
theorem glob_of2 (s path : ByteArray) (want : Bool) (w : World) : Calls Try.prog 19 #[.string s, .string path, .bool want] w fun e w' => e = .returned (.bool (told s.data.toList path.data.toList want)) ∧ Chg [] w w' := by
  obtain ⟨R, hR⟩ : ∃ R, told s.data.toList path.data.toList want = R := ⟨_, rfl⟩
  rw [hR]
  unfold told at hR
  go_enter Try.func19, Try.ntmps19
  go_wp2_with fail
  refine (glob_parse s w).mono ?_
  intro e w1 hpp
  obtain ⟨C1, ⟨hp, rfl⟩ | ⟨hp, rfl⟩ | ⟨m, root, els, b, hp, rfl, hP⟩⟩ := parsed_cases hpp
  all_goals clear hpp
  · rw [hp] at hR
    subst hR
    go_wp2_with fail
    go_ret
    exact ⟨rfl, C1⟩
  · rw [hp] at hR
    subst hR
    go_wp2_with fail
    go_ret
    exact ⟨rfl, C1⟩
  · rw [hp] at hR
    obtain ⟨h1, h2, -⟩ := parse_els hp
    have KM := Lib.hid (fun w2 (C : Chg [] w1 w2) => glob_match b s path m root els w2 (hP.chg C) (by omega) h1)
    have C1' := Lib.hid C1
    have HR := Lib.hid hR
    clear hP h1 h2 hp hR C1
    go_wp2_with fail
    refine (KM.out w1 (Chg.refl _ _)).mono ?_
    rintro e w2 ⟨rfl, C2⟩
    obtain ⟨X, hX⟩ : ∃ X, matchP m.fold root els path.data.toList = X := ⟨_, rfl⟩
    have HR2 := Lib.hid ((show (X == want) = R from by rw [← hX]; exact HR.out))
    rw [hX]
    clear hX
    go_wp2_with fail
    go_ret
    rw [HR2.out]
    exact ⟨rfl, C1'.out.trans C2 (by simp)⟩

theorem glob_form (s : ByteArray) (w : World) : Calls Try.prog 24 #[.string s] w fun e w' => e = .returned (.bool (isForm s.data.toList)) ∧ Chg [] w w' := by
  obtain ⟨R, hR⟩ : ∃ R, isForm s.data.toList = R := ⟨_, rfl⟩
  rw [hR]
  unfold isForm at hR
  go_enter Try.func24, Try.ntmps24
  go_wp2_with fail
  refine (glob_parse s w).mono ?_
  intro e w1 hpp
  obtain ⟨C1, ⟨hp, rfl⟩ | ⟨hp, rfl⟩ | ⟨m, root, els, b, hp, rfl, hP⟩⟩ := parsed_cases hpp
  all_goals clear hpp
  all_goals
    rw [hp] at hR
    subst hR
    go_wp2_with fail
    go_ret
    exact ⟨rfl, C1⟩

set_option maxHeartbeats 4000000 in
theorem glob_awake (w : World) : Calls Try.prog 13 #[] w fun e w' => e = .returned (.bool true) ∧ Chg [] w w' := by
  go_enter Try.func13, Try.ntmps13
  go_wp2_with fail
  refine (glob_of _ _ _).mono ?_
  rintro e w1 ⟨rfl, C1⟩
  rw [show tells [97, 42, 99] [120, 47, 97, 98, 99, 47, 121] = true from by kernel_rfl]
  go_wp2_with fail
  refine (glob_of _ _ _).mono ?_
  rintro e w2 ⟨rfl, C2⟩
  rw [show tells [97, 42, 99] [97, 47, 99] = false from by kernel_rfl]
  go_wp2_with fail
  refine (glob_of _ _ _).mono ?_
  rintro e w3 ⟨rfl, C3⟩
  rw [show tells [97, 42, 42, 99] [97, 47, 98, 47, 99] = true from by kernel_rfl]
  go_wp2_with fail
  refine (glob_of _ _ _).mono ?_
  rintro e w4 ⟨rfl, C4⟩
  rw [show tells [47, 97, 42, 99] [120, 47, 97, 98, 99] = false from by kernel_rfl]
  go_wp2_with fail
  refine (glob_form _ _).mono ?_
  rintro e w5 ⟨rfl, C5⟩
  rw [show isForm [91, 93] = true from by kernel_rfl]
  go_wp2_with fail
  go_ret
  exact ⟨rfl, (((C1.trans C2 (by simp)).trans C3 (by simp)).trans C4 (by simp)).trans C5 (by simp)⟩
end Go.Proofs.Ytnbeamggbehclaa
