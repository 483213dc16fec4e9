/- The law GlobMarks: a mark ahead of a text; the law's walk. No conditions beyond those that each statement types. -/
import Derived.Test.YtnbeamggbehclaaGlobN
namespace Go.Proofs.Ytnbeamggbehclaa
open Go.RowKit

theorem Mk.put_get {m : Mk} {d e : MKd} (h : (m.put d).get e = false) : m.get e = false := by
  cases d <;> cases e <;> simp [Mk.put, Mk.get] at h ⊢ <;> assumption
theorem Mk.put_put (m : Mk) (d e : MKd) : (m.put d).put e = (m.put e).put d := by
  cases d <;> cases e <;> rfl
theorem Mk.get_put {m : Mk} {d e : MKd} (h : m.get e = false) (hn : (m.put e).get d = false) : (m.put d).get e = false := by
  cases d <;> cases e <;> simp [Mk.put, Mk.get] at h hn ⊢ <;> assumption
theorem marksF_get : ∀ (k : Nat) (l : List UInt8) (m m' : Mk) (r : List UInt8) (d : MKd), marksF k l m = some (m', r) → m'.get d = false → m.get d = false
  | 0, l, m, m', r, d, h, hd => by cases h; exact hd
  | k + 1, l, m, m', r, d, h, hd => by
    rw [marksF] at h
    cases hm : mark1 l with
    | none => rw [hm] at h; cases h; exact hd
    | some x =>
      obtain ⟨e, n⟩ := x
      rw [hm] at h
      simp only at h
      split at h
      · cases h
      · exact Mk.put_get (marksF_get k _ _ _ _ _ h hd)
theorem marksF_put : ∀ (k : Nat) (l : List UInt8) (m m' : Mk) (r : List UInt8) (d : MKd), marksF k l m = some (m', r) → m'.get d = false → marksF k l (m.put d) = some (m'.put d, r)
  | 0, l, m, m', r, d, h, hd => by cases h; rfl
  | k + 1, l, m, m', r, d, h, hd => by
    rw [marksF] at h ⊢
    cases hm : mark1 l with
    | none => rw [hm] at h; cases h; rfl
    | some x =>
      obtain ⟨e, n⟩ := x
      rw [hm] at h
      simp only at h ⊢
      split at h
      · cases h
      · rename_i hg
        have hp := marksF_get k _ _ _ _ _ h hd
        have hg' : m.get e = false := by simpa using hg
        have he : (m.put d).get e = false := Mk.get_put hg' hp
        rw [he, if_neg Bool.false_ne_true, Mk.put_put]
        exact marksF_put k _ _ _ _ _ h hd
theorem parse_put {l p : List UInt8} {m : Mk} {root : Bool} {els : List El} {d : MKd} (h : parse l = .pat m root els) (hd : m.get d = false) (hp : mark1 (p ++ l) = some (d, p.length)) (hl : (p ++ l).length ≤ 128) : parse (p ++ l) = .pat (m.put d) root els := by
  unfold parse at h
  split at h
  · cases h
  · split at h
    · cases h
    · rename_i m' r hm
      unfold parse
      rw [if_neg (by omega), marksOf_eq, hp]
      have h0 : Mk.get ⟨false, false, false⟩ d = false := by cases d <;> rfl
      simp only
      rw [h0, if_neg Bool.false_ne_true, List.drop_left' rfl]
      have hm' : m' = m := by
        by_cases hl : (if pre [47] r = true then List.drop 1 r else r).length = 0
        · rw [if_pos hl] at h; cases h
        · rw [if_neg hl] at h
          cases he : elsOf (if pre [47] r = true then List.drop 1 r else r) [] with
          | none => rw [he] at h; cases h
          | some els' => rw [he] at h; simp only [Said.pat.injEq] at h; exact h.1
      subst hm'
      have h2 := marksF_put _ _ _ _ _ d hm hd
      have h3 : marksOf l (Mk.put ⟨false, false, false⟩ d) = some (m'.put d, r) := h2
      rw [h3]
      simp only
      by_cases hl : (if pre [47] r = true then List.drop 1 r else r).length = 0
      · rw [if_pos hl] at h; cases h
      · rw [if_neg hl] at h ⊢
        cases he : elsOf (if pre [47] r = true then List.drop 1 r else r) [] with
        | none => rw [he] at h; cases h
        | some els' =>
          rw [he] at h
          simp only [Said.pat.injEq] at h ⊢
          exact ⟨trivial, h.2.1, h.2.2⟩
theorem told_put {l p path : List UInt8} {m : Mk} {root : Bool} {els : List El} {d : MKd} (h : parse l = .pat m root els) (hd : m.get d = false) (hp : mark1 (p ++ l) = some (d, p.length)) (hl : (p ++ l).length ≤ 128) (hf : (m.put d).fold = m.fold) :
    told (p ++ l) path (matchP m.fold root els path) = true := by
  unfold told
  rw [parse_put h hd hp hl]
  simp only
  rw [hf]
  exact beq_self_eq_true _

theorem PatIs.row {w : World} {b : Nat} {s : ByteArray} {m : Mk} {root : Bool} {els : List El} (H : PatIs w b s m root els) : ∃ v, PatAt w b ⟨s, m.neg, m.del, m.fold, root, v⟩ := by
  obtain ⟨a, n, c, us, h1, h2, h3, h4, h5⟩ := H
  exact ⟨_, h1⟩
theorem pat_Negated {w : World} {b : Nat} {s : ByteArray} {m : Mk} {root : Bool} {els : List El} (H : PatIs w b s m root els) : Calls Try.prog 18 #[.pointer (some ⟨b, 0, none⟩)] w fun e w' => e = .returned (.bool m.neg) ∧ w' = w := by
  obtain ⟨v, h⟩ := H.row
  exact glob_Negated b _ w h
theorem pat_Deletable {w : World} {b : Nat} {s : ByteArray} {m : Mk} {root : Bool} {els : List El} (H : PatIs w b s m root els) : Calls Try.prog 20 #[.pointer (some ⟨b, 0, none⟩)] w fun e w' => e = .returned (.bool m.del) ∧ w' = w := by
  obtain ⟨v, h⟩ := H.row
  exact glob_Deletable b _ w h
theorem pat_Folded {w : World} {b : Nat} {s : ByteArray} {m : Mk} {root : Bool} {els : List El} (H : PatIs w b s m root els) : Calls Try.prog 16 #[.pointer (some ⟨b, 0, none⟩)] w fun e w' => e = .returned (.bool m.fold) ∧ w' = w := by
  obtain ⟨v, h⟩ := H.row
  exact glob_Folded b _ w h
theorem pat_Rooted {w : World} {b : Nat} {s : ByteArray} {m : Mk} {root : Bool} {els : List El} (H : PatIs w b s m root els) : Calls Try.prog 14 #[.pointer (some ⟨b, 0, none⟩)] w fun e w' => e = .returned (.bool root) ∧ w' = w := by
  obtain ⟨v, h⟩ := H.row
  exact glob_Rooted b _ w h
theorem pat_Text {w : World} {b : Nat} {s : ByteArray} {m : Mk} {root : Bool} {els : List El} (H : PatIs w b s m root els) : Calls Try.prog 21 #[.pointer (some ⟨b, 0, none⟩)] w fun e w' => e = .returned (.string s) ∧ w' = w := by
  obtain ⟨v, h⟩ := H.row
  exact glob_Text b _ w h

set_option maxHeartbeats 8000000 in
theorem law_marks (s : ByteArray) (_ : s.size ≤ maxLen) (path : ByteArray) (_ : path.size ≤ maxLen) (w : World) : Calls Try.prog 6 #[.string s, .string path] w fun e w' => e = .returned (.bool true) ∧ Chg [] w w' := by
  go_enter Try.func6, Try.ntmps6
  go_wp2_with fail
  refine (glob_parse s w).mono ?_
  intro e w1 hpp
  obtain ⟨C1, ⟨hp, rfl⟩ | ⟨hp, rfl⟩ | ⟨m, root, els, b, hp, rfl, hP⟩⟩ := parsed_cases hpp
  all_goals clear hpp
  · go_wp2_with fail
    refine (glob_awake _).mono ?_
    rintro e w2 ⟨rfl, C2⟩
    go_wp2_with fail
    go_ret
    exact ⟨rfl, C1.trans C2 (by simp)⟩
  · go_wp2_with fail
    refine (glob_awake _).mono ?_
    rintro e w2 ⟨rfl, C2⟩
    go_wp2_with fail
    go_ret
    exact ⟨rfl, C1.trans C2 (by simp)⟩
  · obtain ⟨h1, h2, h128⟩ := parse_els hp
    by_cases h120 : 120 < s.size
    · have h' : (120 : Int) < s.size := by omega
      clear hP h1 h2 h128
      go_wp2_with fail
      refine (glob_awake _).mono ?_
      rintro e w2 ⟨rfl, C2⟩
      go_wp2_with fail
      go_ret
      exact ⟨rfl, C1.trans C2 (by simp)⟩
    have h' : ¬ (120 : Int) < s.size := by omega
    have KM := Lib.hid (fun w2 (C : Chg [] w1 w2) => glob_match b s path m root els w2 (hP.chg C) (by omega) h1)
    have KN := Lib.hid (fun w2 (C : Chg [] w1 w2) => pat_Negated (hP.chg C))
    have KD := Lib.hid (fun w2 (C : Chg [] w1 w2) => pat_Deletable (hP.chg C))
    have HTN : Hid (m.neg = false → told (ByteArray.mk #[33] ++ s).data.toList path.data.toList (matchP m.fold root els path.data.toList) = true) := Lib.hid (fun hn => told_put (d := .neg) (p := [33]) hp hn rfl (by simp; omega) rfl)
    have HTD : Hid (m.del = false → told (ByteArray.mk #[40, 63, 100, 41] ++ s).data.toList path.data.toList (matchP m.fold root els path.data.toList) = true) := Lib.hid (fun hn => told_put (d := .del) (p := [40, 63, 100, 41]) hp hn rfl (by simp; omega) rfl)
    have C1' := Lib.hid C1
    clear hP h1 h2 hp h128 C1
    cases hn : m.neg with
    | true =>
      rw [hn] at KN
      cases hd : m.del with
      | true =>
        rw [hd] at KD
        go_wp2_with fail
        refine (KN.out _ (Chg.refl [] _)).mono ?_
        rintro e w2 ⟨rfl, rfl⟩
        go_wp2_with fail
        refine (KD.out _ (Chg.refl [] _)).mono ?_
        rintro e w5 ⟨rfl, rfl⟩
        go_wp2_with fail
        refine (glob_awake _).mono ?_
        rintro e w8 ⟨rfl, D8⟩
        go_wp2_with fail
        go_ret
        exact ⟨rfl, C1'.out.trans ((Chg.refl [] _).trans D8 (by simp)) (by simp)⟩
      | false =>
        rw [hd] at KD
        go_wp2_with fail
        refine (KN.out _ (Chg.refl [] _)).mono ?_
        rintro e w2 ⟨rfl, rfl⟩
        go_wp2_with fail
        refine (KD.out _ (Chg.refl [] _)).mono ?_
        rintro e w5 ⟨rfl, rfl⟩
        go_wp2_with fail
        refine (KM.out _ (Chg.refl [] _)).mono ?_
        rintro e w6 ⟨rfl, D6⟩
        have HD6 := Lib.hid (D6)
        clear D6
        go_wp2_with fail
        refine (glob_of2 _ _ _ _).mono ?_
        rintro e w7 ⟨rfl, D7⟩
        rw [HTD.out hd]
        have HD7 := Lib.hid (HD6.out.trans D7 (by simp))
        clear D7
        go_wp2_with fail
        refine (glob_awake _).mono ?_
        rintro e w8 ⟨rfl, D8⟩
        go_wp2_with fail
        go_ret
        exact ⟨rfl, C1'.out.trans (HD7.out.trans D8 (by simp)) (by simp)⟩
    | false =>
      rw [hn] at KN
      cases hd : m.del with
      | true =>
        rw [hd] at KD
        go_wp2_with fail
        refine (KN.out _ (Chg.refl [] _)).mono ?_
        rintro e w2 ⟨rfl, rfl⟩
        go_wp2_with fail
        refine (KM.out _ (Chg.refl [] _)).mono ?_
        rintro e w3 ⟨rfl, D3⟩
        have HD3 := Lib.hid D3
        clear D3
        go_wp2_with fail
        refine (glob_of2 _ _ _ _).mono ?_
        rintro e w4 ⟨rfl, D4⟩
        rw [HTN.out hn]
        have HD4 := Lib.hid (HD3.out.trans D4 (by simp))
        clear D4
        go_wp2_with fail
        refine (KD.out _ HD4.out).mono ?_
        rintro e w5 ⟨rfl, rfl⟩
        go_wp2_with fail
        refine (glob_awake _).mono ?_
        rintro e w8 ⟨rfl, D8⟩
        go_wp2_with fail
        go_ret
        exact ⟨rfl, C1'.out.trans (HD4.out.trans D8 (by simp)) (by simp)⟩
      | false =>
        rw [hd] at KD
        go_wp2_with fail
        refine (KN.out _ (Chg.refl [] _)).mono ?_
        rintro e w2 ⟨rfl, rfl⟩
        go_wp2_with fail
        refine (KM.out _ (Chg.refl [] _)).mono ?_
        rintro e w3 ⟨rfl, D3⟩
        have HD3 := Lib.hid D3
        clear D3
        go_wp2_with fail
        refine (glob_of2 _ _ _ _).mono ?_
        rintro e w4 ⟨rfl, D4⟩
        rw [HTN.out hn]
        have HD4 := Lib.hid (HD3.out.trans D4 (by simp))
        clear D4
        go_wp2_with fail
        refine (KD.out _ HD4.out).mono ?_
        rintro e w5 ⟨rfl, rfl⟩
        go_wp2_with fail
        refine (KM.out _ HD4.out).mono ?_
        rintro e w6 ⟨rfl, D6⟩
        have HD6 := Lib.hid (HD4.out.trans D6 (by simp))
        clear D6
        go_wp2_with fail
        refine (glob_of2 _ _ _ _).mono ?_
        rintro e w7 ⟨rfl, D7⟩
        rw [HTD.out hd]
        have HD7 := Lib.hid (HD6.out.trans D7 (by simp))
        clear D7
        go_wp2_with fail
        refine (glob_awake _).mono ?_
        rintro e w8 ⟨rfl, D8⟩
        go_wp2_with fail
        go_ret
        exact ⟨rfl, C1'.out.trans (HD7.out.trans D8 (by simp)) (by simp)⟩
end Go.Proofs.Ytnbeamggbehclaa
