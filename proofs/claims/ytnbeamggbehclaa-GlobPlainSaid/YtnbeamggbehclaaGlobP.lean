/- The law GlobWithin: what lies within what matches; the law's walk. No conditions beyond those that each statement types. -/
import Derived.Test.YtnbeamggbehclaaGlobO
namespace Go.Proofs.Ytnbeamggbehclaa
open Go.RowKit

theorem seg_app (p q : List UInt8) (a b : Nat) (hb : b ≤ p.length) : seg (p ++ q) a b = seg p a b := by
  unfold seg
  by_cases ha : a ≤ b
  · rw [List.drop_append_of_le_length (by omega), List.take_append_of_le_length (by rw [List.length_drop]; omega)]
  · rw [show b - a = 0 from by omega, List.take_zero, List.take_zero]
theorem seg_behind (p q : List UInt8) (a b : Nat) : seg (p ++ q) (p.length + a) (p.length + b) = seg q a b := by
  unfold seg
  rw [List.drop_append, show p.length + b - (p.length + a) = b - a from by omega, List.drop_eq_nil_of_le (by omega : p.length ≤ p.length + a), show p.length + a - p.length = a from by omega, List.nil_append]
theorem matchP_in {fold root : Bool} {els : List El} {p q : List UInt8} (h : matchP fold root els p = true) (hl : (p ++ 47 :: q).length ≤ 160) : matchP fold root els (p ++ 47 :: q) = true := by
  obtain ⟨_, a, b, hab, hb, hf, he, hm⟩ := (matchP_iff _ _ _ _).1 h
  refine (matchP_iff _ _ _ _).2 ⟨hl, a, b, hab, by rw [List.length_append]; omega, ?_, ?_, by rw [seg_app _ _ _ _ hb]; exact hm⟩
  · unfold fromOk at hf ⊢
    rcases Nat.eq_zero_or_pos a with rfl | ha
    · rfl
    · rw [List.getElem?_append_left (by omega)]
      exact hf
  · unfold endOk at he ⊢
    by_cases hbl : b = p.length
    · rw [List.getElem?_append_right (by omega), hbl, Nat.sub_self]
      simp
    · rw [beq_eq_false_iff_ne.2 hbl, Bool.false_or] at he
      rw [List.getElem?_append_left (by omega), he, Bool.or_true]
theorem matchP_under {fold : Bool} {els : List El} {p q : List UInt8} (h : matchP fold false els p = true) (hl : (q ++ 47 :: p).length ≤ 160) : matchP fold false els (q ++ 47 :: p) = true := by
  obtain ⟨_, a, b, hab, hb, hf, he, hm⟩ := (matchP_iff _ _ _ _).1 h
  have e : q ++ 47 :: p = (q ++ [47]) ++ p := by simp
  rw [e] at hl ⊢
  have hql : (q ++ [47]).length = q.length + 1 := by simp
  have hla : ((q ++ [47]) ++ p).length = (q ++ [47]).length + p.length := List.length_append
  have hbl2 : (q ++ [47]).length + b ≤ ((q ++ [47]) ++ p).length := by have h : ((q ++ [47]) ++ p).length = (q ++ [47]).length + p.length := List.length_append; omega
  refine (matchP_iff _ _ _ _).2 ⟨hl, (q ++ [47]).length + a, (q ++ [47]).length + b, by omega, hbl2, ?_, ?_, by rw [seg_behind]; exact hm⟩
  · unfold fromOk at hf ⊢
    rw [hql, beq_eq_false_iff_ne.2 (by omega), Bool.false_or, Bool.not_false, Bool.true_and]
    rcases Nat.eq_zero_or_pos a with rfl | ha
    · rw [List.getElem?_append_left (by rw [hql]; omega), List.getElem?_append_right (by omega)]
      simp
    · rw [List.getElem?_append_right (by rw [hql]; omega), hql, show q.length + 1 + a - 1 - (q.length + 1) = a - 1 from by omega]
      rw [beq_eq_false_iff_ne.2 (by omega), Bool.false_or, Bool.not_false, Bool.true_and] at hf
      exact hf
  · unfold endOk at he ⊢
    rw [List.getElem?_append_right (by omega), Nat.add_sub_cancel_left, hla]
    by_cases hbl : b = p.length
    · rw [hbl, beq_self_eq_true]; rfl
    · rw [beq_eq_false_iff_ne.2 hbl, Bool.false_or] at he
      rw [he, Bool.or_true]
theorem matchP_len {fold root : Bool} {els : List El} {p : List UInt8} (h : matchP fold root els p = true) : p.length ≤ 160 := ((matchP_iff _ _ _ _).1 h).1

set_option maxHeartbeats 8000000 in
theorem law_within (s : ByteArray) (_ : s.size ≤ reachBytes) (path : ByteArray) (_ : path.size ≤ reachBytes) (behind : ByteArray) (hbe : behind.size ≤ reachBytes) (ahead : ByteArray) (hah : ahead.size ≤ reachBytes) (w : World) :
    Calls Try.prog 4 #[.string s, .string path, .string behind, .string ahead] w fun e w' => e = .returned (.bool true) ∧ Chg [] w w' := by
  go_enter Try.func4, Try.ntmps4
  go_wp2_with fail
  refine (glob_parse s w).mono ?_
  intro e w1 hpp
  obtain ⟨C1, ⟨hp, rfl⟩ | ⟨hp, rfl⟩ | ⟨m, root, els, b, hp, rfl, hP⟩⟩ := parsed_cases hpp
  all_goals clear hpp
  · go_wp2_with fail
    refine (glob_awake _).mono ?_
    rintro e w2 ⟨rfl, C2⟩
    go_wp2_with fail
    go_ret
    exact ⟨rfl, C1.trans C2 (by simp)⟩
  · go_wp2_with fail
    refine (glob_awake _).mono ?_
    rintro e w2 ⟨rfl, C2⟩
    go_wp2_with fail
    go_ret
    exact ⟨rfl, C1.trans C2 (by simp)⟩
  obtain ⟨h1, h2, h128⟩ := parse_els hp
  have KM := Lib.hid (fun w2 (C : Chg [] w1 w2) (t : ByteArray) => glob_match b s t m root els w2 (hP.chg C) (by omega) h1)
  have KR := Lib.hid (fun w2 (C : Chg [] w1 w2) => pat_Rooted (hP.chg C))
  have C1' := Lib.hid C1
  clear hP h1 h2 hp h128 C1
  obtain ⟨M, hM⟩ : ∃ M, matchP m.fold root els path.data.toList = M := ⟨_, rfl⟩
  have HM := Lib.hid hM
  clear hM
  go_wp2_with fail
  refine (KM.out _ (Chg.refl [] _) _).mono ?_
  rintro e w2 ⟨rfl, C2⟩
  rw [HM.out]
  cases M with
  | false =>
    go_wp2_with fail
    refine (glob_awake _).mono ?_
    rintro e w3 ⟨rfl, C3⟩
    go_wp2_with fail
    go_ret
    exact ⟨rfl, C1'.out.trans (C2.trans C3 (by simp)) (by simp)⟩
  | true =>
    have hpl : path.size ≤ 160 := matchP_len HM.out
    have hre : reachBytes = 140737488351232 := rfl
    rw [hre] at hbe hah
    have z1 : ¬ 9223372036854775807 < path.size + 1 := by omega
    have z2 : ¬ 9223372036854775807 < path.size + 1 + behind.size := by omega
    have z3 : ¬ 9223372036854775807 < ahead.size + 1 := by omega
    have z4 : ¬ 9223372036854775807 < ahead.size + 1 + path.size := by omega
    clear hre
    have HIN : Hid (path.size + 1 + behind.size ≤ 160 → matchP m.fold root els (path ++ ByteArray.mk #[47] ++ behind).data.toList = true) := Lib.hid (fun h => by
      have e : (path ++ ByteArray.mk #[47] ++ behind).data.toList = path.data.toList ++ 47 :: behind.data.toList := by simp
      rw [e]
      exact matchP_in HM.out (by simp; omega))
    have HUN : Hid (root = false → ahead.size + 1 + path.size ≤ 160 → matchP m.fold root els (ahead ++ ByteArray.mk #[47] ++ path).data.toList = true) := Lib.hid (fun hr h => by
      have e : (ahead ++ ByteArray.mk #[47] ++ path).data.toList = ahead.data.toList ++ 47 :: path.data.toList := by simp
      rw [e]
      subst hr
      exact matchP_under HM.out (by simp; omega))
    have hpl' : (path.size : Int) ≤ 160 := by omega
    have HC2 := Lib.hid C2
    clear C2
    by_cases hin : path.size + 1 + behind.size ≤ 160
    · have hin' : (path.size : Int) + 1 + behind.size ≤ 160 := by omega
      go_wp2_with fail
      refine (KM.out _ HC2.out _).mono ?_
      rintro e w3 ⟨rfl, D3⟩
      rw [HIN.out hin]
      have HD3 := Lib.hid (HC2.out.trans D3 (by simp))
      clear D3
      go_wp2_with fail
      refine (KR.out _ HD3.out).mono ?_
      rintro e w4 ⟨rfl, rfl⟩
      cases root with
      | true =>
        go_wp2_with fail
        refine (glob_awake _).mono ?_
        rintro e w8 ⟨rfl, D8⟩
        go_wp2_with fail
        go_ret
        exact ⟨rfl, C1'.out.trans (HD3.out.trans D8 (by simp)) (by simp)⟩
      | false =>
        by_cases hun : ahead.size + 1 + path.size ≤ 160
        · have hun' : (ahead.size : Int) + 1 + path.size ≤ 160 := by omega
          go_wp2_with fail
          refine (KM.out _ HD3.out _).mono ?_
          rintro e w5 ⟨rfl, D5⟩
          rw [HUN.out (by trivial) hun]
          have HD5 := Lib.hid (HD3.out.trans D5 (by simp))
          clear D5
          go_wp2_with fail
          refine (glob_awake _).mono ?_
          rintro e w8 ⟨rfl, D8⟩
          go_wp2_with fail
          go_ret
          exact ⟨rfl, C1'.out.trans (HD5.out.trans D8 (by simp)) (by simp)⟩
        · have hun' : ¬ (ahead.size : Int) + 1 + path.size ≤ 160 := by omega
          go_wp2_with fail
          refine (glob_awake _).mono ?_
          rintro e w8 ⟨rfl, D8⟩
          go_wp2_with fail
          go_ret
          exact ⟨rfl, C1'.out.trans (HD3.out.trans D8 (by simp)) (by simp)⟩
    · have hin' : ¬ (path.size : Int) + 1 + behind.size ≤ 160 := by omega
      go_wp2_with fail
      refine (KR.out _ HC2.out).mono ?_
      rintro e w4 ⟨rfl, rfl⟩
      cases root with
      | true =>
        go_wp2_with fail
        refine (glob_awake _).mono ?_
        rintro e w8 ⟨rfl, D8⟩
        go_wp2_with fail
        go_ret
        exact ⟨rfl, C1'.out.trans (HC2.out.trans D8 (by simp)) (by simp)⟩
      | false =>
        by_cases hun : ahead.size + 1 + path.size ≤ 160
        · have hun' : (ahead.size : Int) + 1 + path.size ≤ 160 := by omega
          go_wp2_with fail
          refine (KM.out _ HC2.out _).mono ?_
          rintro e w5 ⟨rfl, D5⟩
          rw [HUN.out (by trivial) hun]
          have HD5 := Lib.hid (HC2.out.trans D5 (by simp))
          clear D5
          go_wp2_with fail
          refine (glob_awake _).mono ?_
          rintro e w8 ⟨rfl, D8⟩
          go_wp2_with fail
          go_ret
          exact ⟨rfl, C1'.out.trans (HD5.out.trans D8 (by simp)) (by simp)⟩
        · have hun' : ¬ (ahead.size : Int) + 1 + path.size ≤ 160 := by omega
          go_wp2_with fail
          refine (glob_awake _).mono ?_
          rintro e w8 ⟨rfl, D8⟩
          go_wp2_with fail
          go_ret
          exact ⟨rfl, C1'.out.trans (HC2.out.trans D8 (by simp)) (by simp)⟩
end Go.Proofs.Ytnbeamggbehclaa
