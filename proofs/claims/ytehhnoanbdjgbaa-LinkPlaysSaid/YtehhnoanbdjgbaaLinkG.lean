/- The law LinkFull. No conditions beyond those that each statement types. -/
import Derived.Test.YtehhnoanbdjgbaaLinkE
namespace Go.Proofs.Ytehhnoanbdjgbaa
open Go.RowKit

theorem zeros_bvs (n : Nat) : (madeCells #[Value.int .u8 0] n).toList = bvs (List.replicate n 0) := by
  rw [toList_madeCells_one]
  simp [bvs, bv]

set_option maxHeartbeats 2000000 in
theorem link_full00 (one two : Int) (h1 : 0 ≤ one ∧ one ≤ 4294967295) (h2 : 0 ≤ two ∧ two ≤ 4294967295) (w : World) (hc1 : one % 270000 ≤ 262144) (hc2 : one % 270000 + two % 270000 ≤ 262144) :
    Calls Try.prog 4 #[.int .u32 one, .int .u32 two] w (Holds w) := by
  obtain ⟨h10, h11⟩ := h1
  obtain ⟨h20, h21⟩ := h2
  obtain ⟨i0, hi, hz0, hz1, hz2⟩ := info_parts Try.info5
  obtain ⟨A, hA⟩ : ∃ A : Nat, one.tmod 270000 = A := ⟨(one % 270000).toNat, by rw [Int.tmod_eq_emod_of_nonneg h10]; omega⟩
  obtain ⟨B, hB⟩ : ∃ B : Nat, two.tmod 270000 = B := ⟨(two % 270000).toNat, by rw [Int.tmod_eq_emod_of_nonneg h20]; omega⟩
  have hA1 : one % 270000 = A := by rw [← hA, Int.tmod_eq_emod_of_nonneg h10]
  have hB1 : two % 270000 = B := by rw [← hB, Int.tmod_eq_emod_of_nonneg h20]
  have hAl : A < 270000 := by omega
  have hBl : B < 270000 := by omega
  have hA2 := Lib.hid hA1
  have hB2 := Lib.hid hB1
  have q1 : (A : Int) ≤ 262144 := by omega
  have q2 : (A : Int) + (B : Int) ≤ 262144 := by omega
  clear hA1 hB1 hc1 hc2
  go_enter Try.func4, Try.ntmps4
  go_wp2_with fail
  refine (link_made w).mono ?_
  rintro r w1 ⟨rfl, L1, S1⟩
  go_wp2_with (at_make; refine wpList_make_full _ rfl _ _ 27 rfl 0 5 i0 _ 1 Try.underlying27 hi hz0 hz1 .i64 .i64 (A : Int) (A : Int) A rfl rfl rfl rfl (by rw [hz2]; omega) (by unfold maxLen; omega) (Nat.zero_le _) ?_)
  intro w2 o2 g2
  rw [zeros_bvs] at o2
  have M2 : Chg [] w1 w2 := Chg.grown g2 (by simp)
  have L2 := L1.stay M2
  go_wp2_with fail
  refine (link_send_x _ _ _ 1 (List.replicate A 0) (0, ⟨[], List.replicate (A) 0, 0⟩) (by simp [LinkS.send]; first | omega | (intro; omega) | skip) _ A A _ L2.1 (by simp [LinkS.ok]) (ownsRow_src o2) (by simp) (by simp)).mono ?_
  rintro r w3 ⟨rfl, F3, L3, S3⟩
  have T3 := (S1.trans L2.2).trans S3
  go_wp2_with (at_make; refine wpList_make_full _ rfl _ _ 27 rfl 0 5 i0 _ 1 Try.underlying27 hi hz0 hz1 .i64 .i64 (B : Int) (B : Int) B rfl rfl rfl rfl (by rw [hz2]; omega) (by unfold maxLen; omega) (Nat.zero_le _) ?_)
  intro w4 o4 g4
  rw [zeros_bvs] at o4
  have M4 : Chg [] w3 w4 := Chg.grown g4 (by simp)
  have L4 := L3.stay M4
  go_wp2_with fail
  refine (link_send_x _ _ _ 1 (List.replicate B 0) (0, ⟨[], List.replicate (A + B) 0, 0⟩) (by simp [LinkS.send]; first | omega | (intro; omega) | skip) _ B B _ L4.1 (by simp [LinkS.ok]; try omega) (ownsRow_src o4) (by simp) (by simp)).mono ?_
  rintro r w5 ⟨rfl, F5, L5, S5⟩
  have T5 := (T3.trans L4.2).trans S5
  go_wp2_with fail
  refine (link_left _ _ _ 2 _ L5).mono ?_
  rintro r w6 ⟨rfl, rfl⟩
  have e1 : (LinkS.left ⟨[], List.replicate (A + B) 0, 0⟩ 2 : Int) = ((A + B : Nat) : Int) := by simp [LinkS.left]
  rw [e1]
  go_wp2_with fail
  refine (link_left _ _ _ 1 _ L5).mono ?_
  rintro r w6 ⟨rfl, rfl⟩
  go_wp2_with fail
  refine (link_works _).mono ?_
  rintro r w7 ⟨rfl, S7⟩
  go_wp2_with fail
  go_ret
  exact ⟨rfl, T5.chg.trans S7 (by simp)⟩

set_option maxHeartbeats 2000000 in
theorem link_full07 (one two : Int) (h1 : 0 ≤ one ∧ one ≤ 4294967295) (h2 : 0 ≤ two ∧ two ≤ 4294967295) (w : World) (hc1 : one % 270000 ≤ 262144) (hc2 : 262144 < one % 270000 + two % 270000) :
    Calls Try.prog 4 #[.int .u32 one, .int .u32 two] w (Holds w) := by
  obtain ⟨h10, h11⟩ := h1
  obtain ⟨h20, h21⟩ := h2
  obtain ⟨i0, hi, hz0, hz1, hz2⟩ := info_parts Try.info5
  obtain ⟨A, hA⟩ : ∃ A : Nat, one.tmod 270000 = A := ⟨(one % 270000).toNat, by rw [Int.tmod_eq_emod_of_nonneg h10]; omega⟩
  obtain ⟨B, hB⟩ : ∃ B : Nat, two.tmod 270000 = B := ⟨(two % 270000).toNat, by rw [Int.tmod_eq_emod_of_nonneg h20]; omega⟩
  have hA1 : one % 270000 = A := by rw [← hA, Int.tmod_eq_emod_of_nonneg h10]
  have hB1 : two % 270000 = B := by rw [← hB, Int.tmod_eq_emod_of_nonneg h20]
  have hAl : A < 270000 := by omega
  have hBl : B < 270000 := by omega
  have hA2 := Lib.hid hA1
  have hB2 := Lib.hid hB1
  have q1 : (A : Int) ≤ 262144 := by omega
  have q2 : 262144 < (A : Int) + (B : Int) := by omega
  clear hA1 hB1 hc1 hc2
  go_enter Try.func4, Try.ntmps4
  go_wp2_with fail
  refine (link_made w).mono ?_
  rintro r w1 ⟨rfl, L1, S1⟩
  go_wp2_with (at_make; refine wpList_make_full _ rfl _ _ 27 rfl 0 5 i0 _ 1 Try.underlying27 hi hz0 hz1 .i64 .i64 (A : Int) (A : Int) A rfl rfl rfl rfl (by rw [hz2]; omega) (by unfold maxLen; omega) (Nat.zero_le _) ?_)
  intro w2 o2 g2
  rw [zeros_bvs] at o2
  have M2 : Chg [] w1 w2 := Chg.grown g2 (by simp)
  have L2 := L1.stay M2
  go_wp2_with fail
  refine (link_send_x _ _ _ 1 (List.replicate A 0) (0, ⟨[], List.replicate (A) 0, 0⟩) (by simp [LinkS.send]; first | omega | (intro; omega) | skip) _ A A _ L2.1 (by simp [LinkS.ok]) (ownsRow_src o2) (by simp) (by simp)).mono ?_
  rintro r w3 ⟨rfl, F3, L3, S3⟩
  have T3 := (S1.trans L2.2).trans S3
  go_wp2_with (at_make; refine wpList_make_full _ rfl _ _ 27 rfl 0 5 i0 _ 1 Try.underlying27 hi hz0 hz1 .i64 .i64 (B : Int) (B : Int) B rfl rfl rfl rfl (by rw [hz2]; omega) (by unfold maxLen; omega) (Nat.zero_le _) ?_)
  intro w4 o4 g4
  rw [zeros_bvs] at o4
  have M4 : Chg [] w3 w4 := Chg.grown g4 (by simp)
  have L4 := L3.stay M4
  go_wp2_with fail
  refine (link_send_x _ _ _ 1 (List.replicate B 0) (7, ⟨[], List.replicate (A) 0, 0⟩) (by simp [LinkS.send]; first | omega | (intro; omega) | skip) _ B B _ L4.1 (by simp [LinkS.ok]; try omega) (ownsRow_src o4) (by simp) (by simp)).mono ?_
  rintro r w5 ⟨rfl, F5, L5, S5⟩
  have T5 := (T3.trans L4.2).trans S5
  go_wp2_with fail
  refine (link_left _ _ _ 2 _ L5).mono ?_
  rintro r w6 ⟨rfl, rfl⟩
  have e1 : (LinkS.left ⟨[], List.replicate (A) 0, 0⟩ 2 : Int) = ((A : Nat) : Int) := by simp [LinkS.left]
  rw [e1]
  go_wp2_with fail
  refine (link_left _ _ _ 1 _ L5).mono ?_
  rintro r w6 ⟨rfl, rfl⟩
  go_wp2_with fail
  refine (link_works _).mono ?_
  rintro r w7 ⟨rfl, S7⟩
  go_wp2_with fail
  go_ret
  exact ⟨rfl, T5.chg.trans S7 (by simp)⟩

set_option maxHeartbeats 2000000 in
theorem link_full70 (one two : Int) (h1 : 0 ≤ one ∧ one ≤ 4294967295) (h2 : 0 ≤ two ∧ two ≤ 4294967295) (w : World) (hc1 : 262144 < one % 270000) (hc2 : two % 270000 ≤ 262144) :
    Calls Try.prog 4 #[.int .u32 one, .int .u32 two] w (Holds w) := by
  obtain ⟨h10, h11⟩ := h1
  obtain ⟨h20, h21⟩ := h2
  obtain ⟨i0, hi, hz0, hz1, hz2⟩ := info_parts Try.info5
  obtain ⟨A, hA⟩ : ∃ A : Nat, one.tmod 270000 = A := ⟨(one % 270000).toNat, by rw [Int.tmod_eq_emod_of_nonneg h10]; omega⟩
  obtain ⟨B, hB⟩ : ∃ B : Nat, two.tmod 270000 = B := ⟨(two % 270000).toNat, by rw [Int.tmod_eq_emod_of_nonneg h20]; omega⟩
  have hA1 : one % 270000 = A := by rw [← hA, Int.tmod_eq_emod_of_nonneg h10]
  have hB1 : two % 270000 = B := by rw [← hB, Int.tmod_eq_emod_of_nonneg h20]
  have hAl : A < 270000 := by omega
  have hBl : B < 270000 := by omega
  have hA2 := Lib.hid hA1
  have hB2 := Lib.hid hB1
  have q1 : 262144 < (A : Int) := by omega
  have q2 : (B : Int) ≤ 262144 := by omega
  clear hA1 hB1 hc1 hc2
  go_enter Try.func4, Try.ntmps4
  go_wp2_with fail
  refine (link_made w).mono ?_
  rintro r w1 ⟨rfl, L1, S1⟩
  go_wp2_with (at_make; refine wpList_make_full _ rfl _ _ 27 rfl 0 5 i0 _ 1 Try.underlying27 hi hz0 hz1 .i64 .i64 (A : Int) (A : Int) A rfl rfl rfl rfl (by rw [hz2]; omega) (by unfold maxLen; omega) (Nat.zero_le _) ?_)
  intro w2 o2 g2
  rw [zeros_bvs] at o2
  have M2 : Chg [] w1 w2 := Chg.grown g2 (by simp)
  have L2 := L1.stay M2
  go_wp2_with fail
  refine (link_send_x _ _ _ 1 (List.replicate A 0) (7, ⟨[], List.replicate (0) 0, 0⟩) (by simp [LinkS.send]; first | omega | (intro; omega) | skip) _ A A _ L2.1 (by simp [LinkS.ok]) (ownsRow_src o2) (by simp) (by simp)).mono ?_
  rintro r w3 ⟨rfl, F3, L3, S3⟩
  have T3 := (S1.trans L2.2).trans S3
  go_wp2_with (at_make; refine wpList_make_full _ rfl _ _ 27 rfl 0 5 i0 _ 1 Try.underlying27 hi hz0 hz1 .i64 .i64 (B : Int) (B : Int) B rfl rfl rfl rfl (by rw [hz2]; omega) (by unfold maxLen; omega) (Nat.zero_le _) ?_)
  intro w4 o4 g4
  rw [zeros_bvs] at o4
  have M4 : Chg [] w3 w4 := Chg.grown g4 (by simp)
  have L4 := L3.stay M4
  go_wp2_with fail
  refine (link_send_x _ _ _ 1 (List.replicate B 0) (0, ⟨[], List.replicate (B) 0, 0⟩) (by simp [LinkS.send]; first | omega | (intro; omega) | skip) _ B B _ L4.1 (by simp [LinkS.ok]; try omega) (ownsRow_src o4) (by simp) (by simp)).mono ?_
  rintro r w5 ⟨rfl, F5, L5, S5⟩
  have T5 := (T3.trans L4.2).trans S5
  go_wp2_with fail
  refine (link_left _ _ _ 2 _ L5).mono ?_
  rintro r w6 ⟨rfl, rfl⟩
  have e1 : (LinkS.left ⟨[], List.replicate (B) 0, 0⟩ 2 : Int) = ((B : Nat) : Int) := by simp [LinkS.left]
  rw [e1]
  go_wp2_with fail
  refine (link_left _ _ _ 1 _ L5).mono ?_
  rintro r w6 ⟨rfl, rfl⟩
  go_wp2_with fail
  refine (link_works _).mono ?_
  rintro r w7 ⟨rfl, S7⟩
  go_wp2_with fail
  go_ret
  exact ⟨rfl, T5.chg.trans S7 (by simp)⟩

set_option maxHeartbeats 2000000 in
theorem link_full77 (one two : Int) (h1 : 0 ≤ one ∧ one ≤ 4294967295) (h2 : 0 ≤ two ∧ two ≤ 4294967295) (w : World) (hc1 : 262144 < one % 270000) (hc2 : 262144 < two % 270000) :
    Calls Try.prog 4 #[.int .u32 one, .int .u32 two] w (Holds w) := by
  obtain ⟨h10, h11⟩ := h1
  obtain ⟨h20, h21⟩ := h2
  obtain ⟨i0, hi, hz0, hz1, hz2⟩ := info_parts Try.info5
  obtain ⟨A, hA⟩ : ∃ A : Nat, one.tmod 270000 = A := ⟨(one % 270000).toNat, by rw [Int.tmod_eq_emod_of_nonneg h10]; omega⟩
  obtain ⟨B, hB⟩ : ∃ B : Nat, two.tmod 270000 = B := ⟨(two % 270000).toNat, by rw [Int.tmod_eq_emod_of_nonneg h20]; omega⟩
  have hA1 : one % 270000 = A := by rw [← hA, Int.tmod_eq_emod_of_nonneg h10]
  have hB1 : two % 270000 = B := by rw [← hB, Int.tmod_eq_emod_of_nonneg h20]
  have hAl : A < 270000 := by omega
  have hBl : B < 270000 := by omega
  have hA2 := Lib.hid hA1
  have hB2 := Lib.hid hB1
  have q1 : 262144 < (A : Int) := by omega
  have q2 : 262144 < (B : Int) := by omega
  clear hA1 hB1 hc1 hc2
  go_enter Try.func4, Try.ntmps4
  go_wp2_with fail
  refine (link_made w).mono ?_
  rintro r w1 ⟨rfl, L1, S1⟩
  go_wp2_with (at_make; refine wpList_make_full _ rfl _ _ 27 rfl 0 5 i0 _ 1 Try.underlying27 hi hz0 hz1 .i64 .i64 (A : Int) (A : Int) A rfl rfl rfl rfl (by rw [hz2]; omega) (by unfold maxLen; omega) (Nat.zero_le _) ?_)
  intro w2 o2 g2
  rw [zeros_bvs] at o2
  have M2 : Chg [] w1 w2 := Chg.grown g2 (by simp)
  have L2 := L1.stay M2
  go_wp2_with fail
  refine (link_send_x _ _ _ 1 (List.replicate A 0) (7, ⟨[], List.replicate (0) 0, 0⟩) (by simp [LinkS.send]; first | omega | (intro; omega) | skip) _ A A _ L2.1 (by simp [LinkS.ok]) (ownsRow_src o2) (by simp) (by simp)).mono ?_
  rintro r w3 ⟨rfl, F3, L3, S3⟩
  have T3 := (S1.trans L2.2).trans S3
  go_wp2_with (at_make; refine wpList_make_full _ rfl _ _ 27 rfl 0 5 i0 _ 1 Try.underlying27 hi hz0 hz1 .i64 .i64 (B : Int) (B : Int) B rfl rfl rfl rfl (by rw [hz2]; omega) (by unfold maxLen; omega) (Nat.zero_le _) ?_)
  intro w4 o4 g4
  rw [zeros_bvs] at o4
  have M4 : Chg [] w3 w4 := Chg.grown g4 (by simp)
  have L4 := L3.stay M4
  go_wp2_with fail
  refine (link_send_x _ _ _ 1 (List.replicate B 0) (7, ⟨[], List.replicate (0) 0, 0⟩) (by simp [LinkS.send]; first | omega | (intro; omega) | skip) _ B B _ L4.1 (by simp [LinkS.ok]; try omega) (ownsRow_src o4) (by simp) (by simp)).mono ?_
  rintro r w5 ⟨rfl, F5, L5, S5⟩
  have T5 := (T3.trans L4.2).trans S5
  go_wp2_with fail
  refine (link_left _ _ _ 2 _ L5).mono ?_
  rintro r w6 ⟨rfl, rfl⟩
  have e1 : (LinkS.left ⟨[], List.replicate (0) 0, 0⟩ 2 : Int) = ((0 : Nat) : Int) := by simp [LinkS.left]
  rw [e1]
  go_wp2_with fail
  refine (link_left _ _ _ 1 _ L5).mono ?_
  rintro r w6 ⟨rfl, rfl⟩
  go_wp2_with fail
  refine (link_works _).mono ?_
  rintro r w7 ⟨rfl, S7⟩
  go_wp2_with fail
  go_ret
  exact ⟨rfl, T5.chg.trans S7 (by simp)⟩

theorem link_full (one : Int) (h1 : 0 ≤ one ∧ one ≤ 4294967295) (two : Int) (h2 : 0 ≤ two ∧ two ≤ 4294967295) (w : World) :
    Calls Try.prog 4 #[.int .u32 one, .int .u32 two] w (Holds w) := by
  by_cases a : one % 270000 ≤ 262144
  · by_cases b : one % 270000 + two % 270000 ≤ 262144
    · exact link_full00 one two h1 h2 w a b
    · exact link_full07 one two h1 h2 w a (by omega)
  · by_cases b : two % 270000 ≤ 262144
    · exact link_full70 one two h1 h2 w (by omega) b
    · exact link_full77 one two h1 h2 w (by omega) (by omega)

end Go.Proofs.Ytehhnoanbdjgbaa
