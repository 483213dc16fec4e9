/- Bytes and texts: lower, upper, one, HasPrefix, CutPrefix. No conditions beyond those that each statement types. -/
import Derived.Test.YtnbeamggbehclaaGlobA
import Derived.Test.YtnbeamggbehclaaProg
namespace Go.Proofs.Ytnbeamggbehclaa
open Go.RowKit

theorem glob_lower (c : UInt8) (w : World) : Calls Try.prog 53 #[bv c] w fun e w' => e = .returned (bv (lowerB c)) ∧ w' = w := by
  have h256 := c.toNat_lt
  have k1 : (65 : UInt8).toNat = 65 := rfl
  have k2 : (90 : UInt8).toNat = 90 := rfl
  have ha : (c + 32).toNat = (c.toNat + 32) % 256 := UInt8.toNat_add c 32
  by_cases h : 65 ≤ c.toNat ∧ c.toNat ≤ 90
  · have e : bv (lowerB c) = .int .u8 (c.toNat + 32) := by
      unfold bv lowerB
      rw [if_pos (by simp only [UInt8.le_iff_toNat_le, k1, k2]; exact h), ha]
      congr 1
      omega
    rw [e]
    unfold bv
    have p1 : (65 : Int) ≤ c.toNat := by omega
    have p2 : (c.toNat : Int) ≤ 90 := by omega
    have w1 : IntKind.u8.wrap ((c.toNat : Int) + 97) = c.toNat + 97 := by rw [IntKind.wrap_u8]; omega
    have w2 : IntKind.u8.wrap ((c.toNat : Int) + 97 - 65) = c.toNat + 32 := by rw [IntKind.wrap_u8]; omega
    clear e ha k1 k2 h
    generalize (c.toNat : Int) = x at *
    go_enter Try.func53, Try.ntmps53
    go_wp2_with fail
    go_ret
    exact ⟨rfl, rfl⟩
  · have e : bv (lowerB c) = .int .u8 c.toNat := by
      unfold bv lowerB
      rw [if_neg (by simp only [UInt8.le_iff_toNat_le, k1, k2]; exact h)]
    rw [e]
    unfold bv
    clear e ha k1 k2
    by_cases h1 : 65 ≤ c.toNat
    · have p1 : (65 : Int) ≤ c.toNat := by omega
      have p2 : ¬ (c.toNat : Int) ≤ 90 := by omega
      generalize (c.toNat : Int) = x at *
      clear h h1
      go_enter Try.func53, Try.ntmps53
      go_wp2_with fail
      go_ret
      exact ⟨rfl, rfl⟩
    · have p1 : ¬ (65 : Int) ≤ c.toNat := by omega
      generalize (c.toNat : Int) = x at *
      clear h h1
      go_enter Try.func53, Try.ntmps53
      go_wp2_with fail
      go_ret
      exact ⟨rfl, rfl⟩
theorem glob_upper (c : UInt8) (w : World) : Calls Try.prog 56 #[bv c] w fun e w' => e = .returned (bv (upperB c)) ∧ w' = w := by
  have h256 := c.toNat_lt
  have k1 : (97 : UInt8).toNat = 97 := rfl
  have k2 : (122 : UInt8).toNat = 122 := rfl
  have ha : (c - 32).toNat = (224 + c.toNat) % 256 := UInt8.toNat_sub c 32
  by_cases h : 97 ≤ c.toNat ∧ c.toNat ≤ 122
  · have e : bv (upperB c) = .int .u8 ((c.toNat : Int) - 32) := by
      unfold bv upperB
      rw [if_pos (by simp only [UInt8.le_iff_toNat_le, k1, k2]; exact h), ha]
      congr 1
      omega
    rw [e]
    unfold bv
    have p1 : (97 : Int) ≤ c.toNat := by omega
    have p2 : (c.toNat : Int) ≤ 122 := by omega
    have w1 : IntKind.u8.wrap ((c.toNat : Int) + 65) = c.toNat + 65 := by rw [IntKind.wrap_u8]; omega
    have w2 : IntKind.u8.wrap ((c.toNat : Int) + 65 - 97) = c.toNat - 32 := by rw [IntKind.wrap_u8]; omega
    clear e ha k1 k2 h
    generalize (c.toNat : Int) = x at *
    go_enter Try.func56, Try.ntmps56
    go_wp2_with fail
    go_ret
    exact ⟨rfl, rfl⟩
  · have e : bv (upperB c) = .int .u8 c.toNat := by
      unfold bv upperB
      rw [if_neg (by simp only [UInt8.le_iff_toNat_le, k1, k2]; exact h)]
    rw [e]
    unfold bv
    clear e ha k1 k2
    by_cases h1 : 97 ≤ c.toNat
    · have p1 : (97 : Int) ≤ c.toNat := by omega
      have p2 : ¬ (c.toNat : Int) ≤ 122 := by omega
      generalize (c.toNat : Int) = x at *
      clear h h1
      go_enter Try.func56, Try.ntmps56
      go_wp2_with fail
      go_ret
      exact ⟨rfl, rfl⟩
    · have p1 : ¬ (97 : Int) ≤ c.toNat := by omega
      generalize (c.toNat : Int) = x at *
      clear h h1
      go_enter Try.func56, Try.ntmps56
      go_wp2_with fail
      go_ret
      exact ⟨rfl, rfl⟩

/-- Does a text begin with another one? -/
def pre (p l : List UInt8) : Bool := p.isPrefixOf l
theorem toList_data (s : ByteArray) : s.toList = s.data.toList := ByteArray.toList_eq s
theorem size_data (s : ByteArray) : s.data.toList.length = s.size := rfl
theorem pre_eq (s p : ByteArray) (_ : p.size ≤ s.size) : ((s.extract 0 p.size).toList == p.toList) = pre p.data.toList s.data.toList := by
  have e : (s.extract 0 p.size).toList = s.data.toList.take p.data.toList.length := by
    rw [toList_data, ByteArray.data_extract, Array.toList_extract]
    show (s.data.toList.drop 0).take (p.size - 0) = _
    rw [List.drop_zero, Nat.sub_zero]
    rfl
  rw [e, toList_data, pre, Bool.eq_iff_iff, beq_iff_eq, List.isPrefixOf_iff_prefix, List.prefix_iff_eq_take, eq_comm]
theorem pre_short (p l : List UInt8) (h : ¬ p.length ≤ l.length) : pre p l = false := by
  rw [pre, Bool.eq_false_iff]
  exact fun hp => h (List.isPrefixOf_iff_prefix.1 hp).length_le
theorem glob_hasPrefix (s p : ByteArray) (w : World) : Calls Try.prog 31 #[.string s, .string p] w fun e w' => e = .returned (.bool (pre p.data.toList s.data.toList)) ∧ w' = w := by
  by_cases h : p.size ≤ s.size
  · have h' : (p.size : Int) ≤ s.size := by omega
    rw [← pre_eq s p h]
    go_enter Try.func31, Try.ntmps31
    go_wp2_with fail
    go_ret
    exact ⟨rfl, rfl⟩
  · have h' : ¬ (p.size : Int) ≤ s.size := by omega
    rw [pre_short _ _ h]
    go_enter Try.func31, Try.ntmps31
    go_wp2_with fail
    go_ret
    exact ⟨rfl, rfl⟩
theorem glob_hasPrefixS (s p : ByteArray) (w : World) : Calls Try.prog 17 #[.string s, .string p] w fun e w' => e = .returned (.bool (pre p.data.toList s.data.toList)) ∧ w' = w := by
  have KP := Lib.hid (glob_hasPrefix s p w)
  generalize pre p.data.toList s.data.toList = b at *
  go_enter Try.func17, Try.ntmps17
  go_wp2_with fail
  refine KP.out.mono ?_
  rintro e w' ⟨rfl, rfl⟩
  go_wp2_with fail
  go_ret
  exact ⟨rfl, rfl⟩

/-- A text without its first bytes. -/
def cutB (s : ByteArray) (n : Nat) : ByteArray := s.extract n s.size
theorem cutB_data (s : ByteArray) (n : Nat) : (cutB s n).data.toList = s.data.toList.drop n := by
  rw [cutB, ByteArray.data_extract, Array.toList_extract]
  show (s.data.toList.drop n).take (s.size - n) = _
  exact List.take_of_length_le (by rw [List.length_drop]; exact Nat.le_refl _)
theorem cutB_size (s : ByteArray) (n : Nat) : (cutB s n).size = s.size - n := by simp [cutB]
theorem cutB_zero (s : ByteArray) : cutB s 0 = s := by
  apply ByteArray.ext
  rw [← Array.toList_inj, cutB_data, List.drop_zero]
theorem cutB_cutB (s : ByteArray) (n m : Nat) : cutB (cutB s n) m = cutB s (n + m) := by
  apply ByteArray.ext
  rw [← Array.toList_inj, cutB_data, cutB_data, cutB_data, List.drop_drop]
theorem glob_cutPrefix (s p : ByteArray) (w : World) : Calls Try.prog 51 #[.string s, .string p] w fun e w' => e = .returned (.tuple #[.string (if pre p.data.toList s.data.toList then cutB s p.size else s), .bool (pre p.data.toList s.data.toList)]) ∧ w' = w := by
  have KP := Lib.hid (glob_hasPrefix s p w)
  have hsz : pre p.data.toList s.data.toList = true → p.size ≤ s.size := fun h => by
    by_cases hle : p.size ≤ s.size
    · exact hle
    · rw [pre_short _ _ hle] at h; cases h
  unfold cutB
  generalize pre p.data.toList s.data.toList = b at *
  go_enter Try.func51, Try.ntmps51
  go_wp2_with fail
  refine KP.out.mono ?_
  rintro e w' ⟨rfl, rfl⟩
  cases b with
  | true =>
    have h1 := hsz rfl
    have h2 : (p.size : Int) ≤ s.size := by omega
    clear hsz
    go_wp2_with fail
    go_ret2
    exact ⟨rfl, rfl⟩
  | false =>
    go_wp2_with fail
    go_ret2
    exact ⟨rfl, rfl⟩
theorem glob_cutPrefixS (s p : ByteArray) (w : World) : Calls Try.prog 38 #[.string s, .string p] w fun e w' => e = .returned (.tuple #[.string (if pre p.data.toList s.data.toList then cutB s p.size else s), .bool (pre p.data.toList s.data.toList)]) ∧ w' = w := by
  have KP := Lib.hid (glob_cutPrefix s p w)
  generalize pre p.data.toList s.data.toList = b at *
  generalize (if b then cutB s p.size else s) = t at *
  go_enter Try.func38, Try.ntmps38
  go_wp2_with fail
  refine KP.out.mono ?_
  rintro e w' ⟨rfl, rfl⟩
  go_wp2_with fail
  go_ret2
  exact ⟨rfl, rfl⟩

/-- The first byte of a text, that may stand behind a backslash; and how long it is. -/
def one1 : List UInt8 → Option (UInt8 × Nat)
  | [] => none
  | a :: r => if a = 47 then none else if a = 92 then (match r with | [] => none | b :: _ => if b = 47 then none else some (b, 2)) else some (a, 1)
theorem one1_cons (a : UInt8) (r : List UInt8) : one1 (a :: r) = if a = 47 then none else if a = 92 then (match r with | [] => none | b :: _ => if b = 47 then none else some (b, 2)) else some (a, 1) := rfl
def oneV (l : List UInt8) : Value := match one1 l with
  | none => .tuple #[.int .u8 0, .int .i64 0]
  | some (c, n) => .tuple #[bv c, .int .i64 n]
theorem data_get {s : ByteArray} {k : Nat} (h : k < s.size) : s.data.toList[k]? = some s[k] := by
  rw [List.getElem?_eq_getElem (by rw [size_data]; exact h)]
  rfl
theorem data_head {s : ByteArray} {k : Nat} (h : k < s.size) : s.data.toList.drop k = s[k] :: s.data.toList.drop (k + 1) := by
  rw [List.drop_eq_getElem_cons (by rw [size_data]; exact h)]
  rfl
theorem glob_one (s : ByteArray) (w : World) : Calls Try.prog 43 #[.string s] w fun e w' => e = .returned (oneV s.data.toList) ∧ w' = w := by
  by_cases h0 : s.size = 0
  · have hv : oneV s.data.toList = .tuple #[.int .u8 0, .int .i64 0] := by
      have : s.data.toList = [] := List.eq_nil_of_length_eq_zero h0
      rw [this]; rfl
    rw [hv]
    go_enter Try.func43, Try.ntmps43
    go_wp2_with fail
    go_ret2
    exact ⟨rfl, rfl⟩
  · have hlt : 0 < s.size := by omega
    have hd : s.data.toList = s[0] :: s.data.toList.drop 1 := by have := data_head hlt; rwa [List.drop_zero] at this
    have hz : ((s.size : Int) == 0) = false := beq_eq_false_iff_ne.2 (by omega)
    by_cases h47 : s[0].toNat = 47
    · have hv : oneV s.data.toList = .tuple #[.int .u8 0, .int .i64 0] := by
        rw [hd, oneV, one1_cons, if_pos (u8_eq.2 h47)]
      rw [hv]
      clear hv hd
      go_enter Try.func43, Try.ntmps43
      go_wp2_with fail
      go_ret2
      exact ⟨rfl, rfl⟩
    · have hn47 : ((s[0].toNat : Int) == 47) = false := beq_eq_false_iff_ne.2 (by omega)
      have hne : ¬ s[0] = 47 := fun e => h47 (u8_eq.1 e)
      by_cases h92 : s[0].toNat = 92
      · have he : s[0] = 92 := u8_eq.2 h92
        by_cases h1 : s.size = 1
        · have hv : oneV s.data.toList = .tuple #[.int .u8 0, .int .i64 0] := by
            have : s.data.toList.drop 1 = [] := List.eq_nil_of_length_eq_zero (by rw [List.length_drop, size_data, h1])
            rw [hd, oneV, one1_cons, if_neg hne, if_pos he, this]
          rw [hv]
          clear hv hd hne he h47
          go_enter Try.func43, Try.ntmps43
          go_wp2_with fail
          go_ret2
          exact ⟨rfl, rfl⟩
        · have hlt1 : 1 < s.size := by omega
          have hz1 : ((s.size : Int) == 1) = false := beq_eq_false_iff_ne.2 (by omega)
          have hd1 : s.data.toList = s[0] :: s[1] :: s.data.toList.drop 2 := by rw [← data_head hlt1]; exact hd
          by_cases k47 : s[1].toNat = 47
          · have hv : oneV s.data.toList = .tuple #[.int .u8 0, .int .i64 0] := by
              rw [hd1, oneV, one1_cons, if_neg hne, if_pos he]
              simp only [if_pos (u8_eq.2 k47 : s[1] = 47)]
            rw [hv]
            clear hv hd hd1 hne he h47
            go_enter Try.func43, Try.ntmps43
            go_wp2_with fail
            go_ret2
            exact ⟨rfl, rfl⟩
          · have kn47 : ((s[1].toNat : Int) == 47) = false := beq_eq_false_iff_ne.2 (by omega)
            have hv : oneV s.data.toList = .tuple #[.int .u8 s[1].toNat, .int .i64 2] := by
              rw [hd1, oneV, one1_cons, if_neg hne, if_pos he]
              simp only [if_neg (fun e => k47 (u8_eq.1 e) : ¬ s[1] = 47)]
              rfl
            rw [hv]
            clear hv hd hd1 hne he h47
            go_enter Try.func43, Try.ntmps43
            go_wp2_with fail
            go_ret2
            exact ⟨rfl, rfl⟩
      · have hn92 : ((s[0].toNat : Int) != 92) = true := bne_iff_ne.2 (by omega)
        have hv : oneV s.data.toList = .tuple #[.int .u8 s[0].toNat, .int .i64 1] := by
          rw [hd, oneV, one1_cons, if_neg hne, if_neg (fun e => h92 (u8_eq.1 e))]
          rfl
        rw [hv]
        clear hv hd hne h47
        go_enter Try.func43, Try.ntmps43
        go_wp2_with fail
        go_ret2
        exact ⟨rfl, rfl⟩
end Go.Proofs.Ytnbeamggbehclaa
