/- The law GlobPlain's walk. No conditions beyond those that each statement types. -/
import Derived.Test.YtnbeamggbehclaaGlobR
namespace Go.Proofs.Ytnbeamggbehclaa
open Go.RowKit

theorem law_plain_awake (s path : ByteArray) (h : s.size = 0 ∨ 60 < s.size ∨ 160 < path.size) (w : World) : Calls Try.prog 5 #[.string s, .string path] w fun e w' => e = .returned (.bool true) ∧ Chg [] w w' := by
  by_cases h0 : s.size = 0
  · go_enter Try.func5, Try.ntmps5
    go_wp2_with fail
    refine (glob_awake _).mono ?_
    rintro e w2 ⟨rfl, C2⟩
    go_wp2_with fail
    go_ret
    exact ⟨rfl, C2⟩
  have h0' : ((s.size : Int) == 0) = false := beq_eq_false_iff_ne.2 (by omega)
  by_cases h1 : 60 < s.size
  · have h1' : (60 : Int) < s.size := by omega
    go_enter Try.func5, Try.ntmps5
    go_wp2_with fail
    refine (glob_awake _).mono ?_
    rintro e w2 ⟨rfl, C2⟩
    go_wp2_with fail
    go_ret
    exact ⟨rfl, C2⟩
  have h1' : ¬ (60 : Int) < s.size := by omega
  have h2 : 160 < path.size := by omega
  have h2' : (160 : Int) < path.size := by omega
  clear h
  go_enter Try.func5, Try.ntmps5
  go_wp2_with fail
  refine (glob_awake _).mono ?_
  rintro e w2 ⟨rfl, C2⟩
  go_wp2_with fail
  go_ret
  exact ⟨rfl, C2⟩

set_option maxHeartbeats 8000000 in
theorem law_plain (s : ByteArray) (_ : s.size ≤ maxLen) (path : ByteArray) (_ : path.size ≤ maxLen) (w : World) : Calls Try.prog 5 #[.string s, .string path] w fun e w' => e = .returned (.bool true) ∧ Chg [] w w' := by
  by_cases h0 : s.size = 0
  · exact law_plain_awake s path (.inl h0) w
  by_cases h1 : 60 < s.size
  · exact law_plain_awake s path (.inr (.inl h1)) w
  by_cases h2 : 160 < path.size
  · exact law_plain_awake s path (.inr (.inr h2)) w
  have h0' : ((s.size : Int) == 0) = false := beq_eq_false_iff_ne.2 (by omega)
  have h1' : ¬ (60 : Int) < s.size := by omega
  have h2' : ¬ (160 : Int) < path.size := by omega
  have hz : ¬ 9223372036854775807 < s.size + 1 := by omega
  have hne : s.data.toList ≠ [] := fun e => h0 (by rw [← size_data, e]; rfl)
  have hmp : ∀ t : ByteArray, t.size ≤ 160 → matchP false true (s.data.toList.map .byt) t.data.toList = (t.data.toList == s.data.toList || pre (s.data.toList ++ [47]) t.data.toList) := fun t ht => matchP_plain _ _ ht
  have hms : matchP false true (s.data.toList.map .byt) s.data.toList = true := by rw [hmp s (by omega), beq_self_eq_true, Bool.true_or]
  have hHP : (s ++ ByteArray.mk #[47]).data.toList = s.data.toList ++ [47] := by simp
  have HW := Lib.hid (hmp path (by omega))
  have KP := Lib.hid (fun w => glob_hasPrefixS path (s ++ ByteArray.mk #[47]) w)
  rw [hHP] at KP
  clear hHP hmp
  go_enter Try.func5, Try.ntmps5
  go_wp2_with fail
  refine (glob_plain s (by omega) w).mono ?_
  rintro e w0 ⟨t, ht, rfl, C0⟩
  go_wp2_with fail
  refine (glob_parse t w0).mono ?_
  intro e w1 hpp
  have hp0 := parse_plain s.data.toList hne (by rw [size_data]; omega)
  rw [← ht] at hp0
  obtain ⟨C1, ⟨hp, rfl⟩ | ⟨hp, rfl⟩ | ⟨m, root, els, b, hp, rfl, hP⟩⟩ := parsed_cases hpp
  · rw [hp0] at hp; cases hp
  · rw [hp0] at hp; cases hp
  rw [hp0] at hp
  simp only [Said.pat.injEq] at hp
  obtain ⟨rfl, rfl, rfl⟩ := hp
  have hl0 : (s.data.toList.map El.byt).length ≤ 1000 := by rw [List.length_map, size_data]; omega
  have hl1 : s.data.toList.map El.byt ≠ [] := fun e => hne (List.map_eq_nil_iff.1 e)
  have KM := Lib.hid (fun w2 (C : Chg [] w1 w2) (u : ByteArray) => glob_match b t u _ _ _ w2 (hP.chg C) hl0 hl1)
  have KR := Lib.hid (fun w2 (C : Chg [] w1 w2) => pat_Rooted (hP.chg C))
  have KF := Lib.hid (fun w2 (C : Chg [] w1 w2) => pat_Folded (hP.chg C))
  have HC := Lib.hid (C0.trans C1 (by simp))
  have HS := Lib.hid hms
  clear hpp hP hl0 hl1 hp0 C0 C1 ht hne hms
  go_wp2_with fail
  refine (KM.out _ (Chg.refl [] _) s).mono ?_
  rintro e w2 ⟨rfl, D2⟩
  have HD2 := Lib.hid D2
  clear D2
  rw [HS.out]
  go_wp2_with fail
  refine (KR.out _ HD2.out).mono ?_
  rintro e w3 ⟨rfl, rfl⟩
  go_wp2_with fail
  refine (KF.out _ HD2.out).mono ?_
  rintro e w4 ⟨rfl, rfl⟩
  have HB : Hid ((path.toList == s.toList) = (path.data.toList == s.data.toList)) := Lib.hid (by rw [toList_data, toList_data])
  obtain ⟨q, hq⟩ : ∃ q, (path.data.toList == s.data.toList) = q := ⟨_, rfl⟩
  obtain ⟨r, hr⟩ : ∃ r, pre (s.data.toList ++ [47]) path.data.toList = r := ⟨_, rfl⟩
  rw [hq, hr] at HW
  rw [hr] at KP
  have hq2 : (path.toList == s.toList) = q := by rw [HB.out, hq]
  clear hq hr HB
  cases q with
  | true =>
    go_wp2_with fail
    refine (KM.out _ HD2.out path).mono ?_
    rintro e w5 ⟨rfl, D5⟩
    rw [HW.out]
    have HD5 := Lib.hid (HD2.out.trans D5 (by simp))
    clear D5
    go_wp2_with fail
    refine (glob_awake _).mono ?_
    rintro e w8 ⟨rfl, D8⟩
    go_wp2_with fail
    go_ret
    exact ⟨rfl, HC.out.trans (HD5.out.trans D8 (by simp)) (by simp)⟩
  | false =>
    go_wp2_with fail
    refine (KP.out _).mono ?_
    rintro e w4 ⟨rfl, rfl⟩
    go_wp2_with fail
    refine (KM.out _ HD2.out path).mono ?_
    rintro e w5 ⟨rfl, D5⟩
    rw [HW.out, Bool.false_or]
    have HD5 := Lib.hid (HD2.out.trans D5 (by simp))
    clear D5
    cases r with
    | true =>
      go_wp2_with fail
      refine (glob_awake _).mono ?_
      rintro e w8 ⟨rfl, D8⟩
      go_wp2_with fail
      go_ret
      exact ⟨rfl, HC.out.trans (HD5.out.trans D8 (by simp)) (by simp)⟩
    | false =>
      go_wp2_with fail
      refine (glob_awake _).mono ?_
      rintro e w8 ⟨rfl, D8⟩
      go_wp2_with fail
      go_ret
      exact ⟨rfl, HC.out.trans (HD5.out.trans D8 (by simp)) (by simp)⟩
end Go.Proofs.Ytnbeamggbehclaa
