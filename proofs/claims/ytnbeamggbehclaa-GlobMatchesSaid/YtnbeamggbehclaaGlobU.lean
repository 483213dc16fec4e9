/- The reference's begins, written; its elements as values. No conditions beyond those that each statement types. -/
import Derived.Test.YtnbeamggbehclaaGlobK
namespace Go.Proofs.Ytnbeamggbehclaa
open Go.RowKit

theorem ref_begins (s p : ByteArray) (w : World) : Calls Try.prog 27 #[.string s, .string p] w fun e w' => e = .returned (.bool (pre p.data.toList s.data.toList)) ∧ w' = w := by
  by_cases h : p.size ≤ s.size
  · have h' : (p.size : Int) ≤ s.size := by omega
    rw [← pre_eq s p h]
    go_enter Try.func27, Try.ntmps27
    go_wp2_with fail
    go_ret
    exact ⟨rfl, rfl⟩
  · have h' : ¬ (p.size : Int) ≤ s.size := by omega
    rw [pre_short _ _ h]
    go_enter Try.func27, Try.ntmps27
    go_wp2_with fail
    go_ret
    exact ⟨rfl, rfl⟩

/-- A text of bytes. -/
def bs (l : List UInt8) : ByteArray := ⟨l.toArray⟩
theorem bs_data (l : List UInt8) : (bs l).data.toList = l := rfl
theorem bs_size (l : List UInt8) : (bs l).size = l.length := rfl
theorem bs_of (s : ByteArray) : bs s.data.toList = s := rfl
theorem bs_cut (l : List UInt8) (n : Nat) : cutB (bs l) n = bs (l.drop n) := by
  apply ByteArray.ext
  rw [← Array.toList_inj, cutB_data]
  rfl

/-- As the document takes the first byte. -/
def writ (l : List UInt8) : Option (UInt8 × List UInt8) := (one1 l).map fun p => (p.1, l.drop p.2)
def afterB (l : List UInt8) : List UInt8 := if l.getD 0 0 = 92 then l.drop 1 else l
theorem writ_eq (l : List UInt8) : writ l = match afterB l with
    | [] => none
    | c :: r => if c = 47 then none else some (c, r) := by
  unfold writ afterB
  cases l with
  | nil => rfl
  | cons a r =>
    rw [one1_cons, show (a :: r).getD 0 0 = a from rfl]
    by_cases h92 : a = 92
    · subst h92
      rw [if_neg (by decide), if_pos rfl, if_pos rfl]
      cases r with
      | nil => rfl
      | cons b t =>
        show Option.map _ (if b = 47 then none else some (b, 2)) = if b = 47 then none else some (b, t)
        by_cases h47 : b = 47
        · rw [if_pos h47, if_pos h47]; rfl
        · rw [if_neg h47, if_neg h47]; rfl
    · rw [if_neg h92, if_neg h92]
      show Option.map _ (if a = 47 then none else some (a, 1)) = if a = 47 then none else some (a, r)
      by_cases h47 : a = 47
      · rw [if_pos h47, if_pos h47]; rfl
      · rw [if_neg h47, if_neg h47]; rfl
def writV : Option (UInt8 × List UInt8) → Value
  | none => .tuple #[.int .u8 0, .string ⟨#[]⟩, .bool false]
  | some (c, r) => .tuple #[bv c, .string (bs r), .bool true]

set_option maxHeartbeats 4000000 in
theorem ref_written (l : List UInt8) (hl : l.length ≤ 1000) (w : World) : Calls Try.prog 45 #[.string (bs l)] w fun e w' => e = .returned (writV (writ l)) ∧ Chg [] w w' := by
  obtain ⟨R, hR⟩ : ∃ R, writ l = R := ⟨_, rfl⟩
  rw [hR]
  rw [writ_eq] at hR
  obtain ⟨u, hu⟩ : ∃ u, afterB l = u := ⟨_, rfl⟩
  rw [hu] at hR
  unfold afterB at hu
  have HR := Lib.hid hR
  have HU := Lib.hid hu
  clear hR hu
  obtain ⟨s, hs⟩ : ∃ s, bs l = s := ⟨_, rfl⟩
  have hd : s.data.toList = l := by rw [← hs]; rfl
  have hz : s.size = l.length := by rw [← hs]; rfl
  rw [hs]
  have HD := Lib.hid hd
  have hs1 : s.size ≤ 1000 := by omega
  clear hs hz hl hd
  go_enter Try.func45, Try.ntmps45
  go_upto_region 1 with (fail)
  obtain ⟨Q, hQ⟩ : ∃ Q, decide (0 < s.size ∧ l.getD 0 0 = 92) = Q := ⟨_, rfl⟩
  have HQ := Lib.hid hQ
  clear hQ
  go_cut [12] (fun v w' => v = .bool Q ∧ w = w')
  case first =>
    by_cases h0 : s.size = 0
    · have hq : false = Q := by rw [← HQ.out, decide_eq_false (by omega)]
      have HX := Lib.hid hq
      have h0' : ¬ (0 : Int) < s.size := by omega
      clear hq
      go_wp2_with fail
      go_meet
      case rel => exact ⟨by rw [HX.out], rfl⟩
    · have hlt : 0 < s.size := by omega
      have hlt' : (0 : Int) < s.size := by omega
      have hdd : s.data.toList = s[0] :: s.data.toList.drop 1 := by have := data_head hlt; rwa [List.drop_zero] at this
      have hg : l.getD 0 0 = s[0] := by rw [← HD.out, hdd]; rfl
      have hq : ((s[0].toNat : Int) == 92) = Q := by
        rw [← HQ.out, hg, Bool.eq_iff_iff, beq_iff_eq, decide_eq_true_iff, u8_eq, show (92 : UInt8).toNat = 92 from rfl]
        omega
      have HX := Lib.hid hq
      clear hq hdd hg
      go_wp2_with fail
      go_meet
      case rel => exact ⟨by rw [HX.out], rfl⟩
  case rest =>
  rename_i hK0
  obtain ⟨rfl, rfl⟩ := hcut
  refine hK0 _ _ ?_
  clear hK0
  go_upto_if 12 with (fail)
  go_cut [0] (fun v w' => Hid (v = .string (bs u)) ∧ w = w')
  case first =>
    cases Q with
    | true =>
      have hq := decide_eq_true_iff.1 HQ.out
      have HX : Hid (Value.string (cutB s 1) = .string (bs u)) := Lib.hid (by rw [← HU.out, if_pos hq.2, ← bs_of s, HD.out, bs_cut])
      have h1s : (1 : Int) ≤ s.size := by omega
      have hcut : s.extract 1 s.size = cutB s 1 := rfl
      generalize cutB s 1 = u1 at *
      clear hq
      go_wp2_with fail
      go_meet
      case rel => exact ⟨HX, rfl⟩
    | false =>
      have hq := decide_eq_false_iff_not.1 HQ.out
      have HX : Hid (Value.string s = .string (bs u)) := Lib.hid (by
        rw [← HU.out, ← bs_of s, HD.out]
        split
        · rename_i h
          have h0 : s.size = 0 := by
            rcases Nat.eq_zero_or_pos s.size with h1 | h1
            · exact h1
            · exact absurd ⟨h1, h⟩ hq
          have : l = [] := by rw [← HD.out]; exact List.eq_nil_of_length_eq_zero h0
          rw [this] at h
          cases h
        · rfl)
      clear hq
      go_wp2_with fail
      go_meet
      case rel => exact ⟨HX, rfl⟩
  case rest =>
  obtain ⟨hv, rfl⟩ := hcut
  rw [hv.out]
  cases u with
  | nil =>
    have hR := HR.out
    simp only at hR
    subst hR
    obtain ⟨t, ht⟩ : ∃ t, bs [] = t := ⟨_, rfl⟩
    have ht0 : t.size = 0 := by rw [← ht]; rfl
    rw [ht]
    clear hv ht
    go_wp2_with fail
    go_ret3
    exact ⟨rfl, Chg.refl _ _⟩
  | cons c r =>
    have hR := HR.out
    simp only at hR
    obtain ⟨t, ht⟩ : ∃ t, bs (c :: r) = t := ⟨_, rfl⟩
    have ht0 : 0 < t.size := by rw [← ht]; exact Nat.succ_pos _
    have htc : t[0] = c := by subst ht; rfl
    have hcut : t.extract 1 t.size = bs r := by show cutB t 1 = _; rw [← ht, bs_cut]; rfl
    have htz : ((t.size : Int) == 0) = false := beq_eq_false_iff_ne.2 (by omega)
    have ht1 : (1 : Int) ≤ t.size := by omega
    have ht2 : (0 : Int) < t.size := by omega
    rw [ht]
    clear hv ht
    by_cases h47 : c = 47
    · rw [if_pos h47] at hR
      have hb : ((t[0].toNat : Int) == 47) = true := by rw [htc, h47]; rfl
      subst hR
      clear htc h47
      go_wp2_with fail
      go_ret3
      exact ⟨rfl, Chg.refl _ _⟩
    · rw [if_neg h47] at hR
      have hb : ((t[0].toNat : Int) == 47) = false := by rw [htc]; exact beq_eq_false_iff_ne.2 (fun e => h47 (u8_eq.2 (by rw [show (47 : UInt8).toNat = 47 from rfl]; omega)))
      have HC := Lib.hid (show writV (some (c, r)) = .tuple #[bv t[0], .string (bs r), .bool true] by rw [htc]; rfl)
      subst hR
      clear h47 htc
      generalize bs r = v at *
      go_wp2_with fail
      go_quiet (fail)
      go_wp2_with fail
      go_ret3
      exact ⟨by rw [HC.out]; rfl, Chg.drewN _ _ _⟩
end Go.Proofs.Ytnbeamggbehclaa
