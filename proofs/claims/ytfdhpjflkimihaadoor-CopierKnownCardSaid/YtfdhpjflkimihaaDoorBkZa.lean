/- The reference's Size and Count. No conditions beyond those that each statement types. -/
import Derived.Test.YtfdhpjflkimihaaDoorBkJg
namespace Go.Proofs.YtfdhpjflkimihaaDoor
open Go.RowKit

set_option maxRecDepth 100000 in
set_option maxHeartbeats 4000000 in
theorem ref_size (n : Int) (w : World) : Calls Tryd.prog 16 #[.int .i64 n] w fun e w' => e = .returned (.int .i64 (bszZ n)) ∧ Chg [] w w' := by
  by_cases h0 : n < 0
  · have hr : bszZ n = 0 := by unfold bszZ; rw [if_pos h0]
    rw [hr]
    clear hr
    go_enter Tryd.func16, Tryd.ntmps16
    go_wp2_with fail
    go_ret
    exact ⟨rfl, Chg.refl _ _⟩
  · obtain ⟨m, rfl⟩ : ∃ m : Nat, n = m := ⟨n.toNat, by omega⟩
    have hz : bszZ m = bszN m := by unfold bszZ; rw [if_neg h0]; rfl
    rw [hz]
    by_cases h1 : 4096 < m
    · have h2 : (m : Int) > 4096 := by omega
      rw [bszN_big h1]
      go_enter Tryd.func16, Tryd.ntmps16
      go_wp2_with fail
      go_ret
      exact ⟨rfl, Chg.refl _ _⟩
    · have h2 : ¬ (m : Int) > 4096 := by omega
      have hm : m ≤ 4096 := by omega
      have HB : Hid (bszN m = if m ≤ 512 then 16 else if m ≤ 1024 then 32 else if m ≤ 2048 then 64 else if m ≤ 4096 then 128 else 0) := Lib.hid rfl
      obtain ⟨B, hB⟩ : ∃ B, bszN m = B := ⟨_, rfl⟩
      rw [hB] at HB ⊢
      have C1 := Chg.alloc [] w (.cells #[.int .i64 16, .int .i64 32, .int .i64 64, .int .i64 128, .int .i64 256] 3)
      have hx := heap_alloc_new w (.cells #[.int .i64 16, .int .i64 32, .int .i64 64, .int .i64 128, .int .i64 256] 3)
      clear hB hz h1
      go_enter Tryd.func16, Tryd.ntmps16
      go_upto_region 5 with (fail)
      generalize w.alloc (.cells #[.int .i64 16, .int .i64 32, .int .i64 64, .int .i64 128, .int .i64 256] 3) = w1 at *
      obtain ⟨g, hg⟩ : ∃ g, w.heap.size = g := ⟨_, rfl⟩
      rw [hg] at hx ⊢
      have HX := Lib.hid hx
      clear hx hg
      go_loopw [4] (fun v wr => ∃ k : Nat, v = .int .i64 (k : Int) ∧ wr = w1 ∧ k ≤ 3 ∧ (1 ≤ k → 512 < m) ∧ (2 ≤ k → 1024 < m) ∧ (3 ≤ k → 2048 < m)) (fun v _ => 4 - (intOf v).toNat)
      case atStart => exact ⟨0, rfl, rfl, by omega, by omega, by omega, by omega⟩
      case round =>
        obtain ⟨k, rfl, rfl, hk, k1, k2, k3⟩ := hrel
        have hk4 : k = 0 ∨ k = 1 ∨ k = 2 ∨ k = 3 := by omega
        rcases hk4 with rfl | rfl | rfl | rfl
        · have y : wr.cell? ⟨g, 0, none⟩ = some (.int .i64 16) := by rw [cell_of_row _ _ _ _ _ _ HX.out]; rfl
          by_cases hq : m ≤ 512
          · have e1 : (m : Int) ≤ 512 := by omega
            have hb : B = 16 := by rw [HB.out, if_pos hq]
            go_wp2_with fail
            go_ret
            exact ⟨by rw [hb]; rfl, C1⟩
          · have e1 : ¬ (m : Int) ≤ 512 := by omega
            go_wp2_with fail
            refine ⟨⟨1, rfl, trivial, by omega, by omega, by omega, by omega⟩, ?_⟩
            decide
        · have y : wr.cell? ⟨g, 1, none⟩ = some (.int .i64 32) := by rw [cell_of_row _ _ _ _ _ _ HX.out]; rfl
          by_cases hq : m ≤ 1024
          · have e1 : (m : Int) ≤ 1024 := by omega
            have hb : B = 32 := by rw [HB.out, if_neg (by omega), if_pos hq]
            go_wp2_with fail
            go_ret
            exact ⟨by rw [hb]; rfl, C1⟩
          · have e1 : ¬ (m : Int) ≤ 1024 := by omega
            go_wp2_with fail
            refine ⟨⟨2, rfl, trivial, by omega, by omega, by omega, by omega⟩, ?_⟩
            decide
        · have y : wr.cell? ⟨g, 2, none⟩ = some (.int .i64 64) := by rw [cell_of_row _ _ _ _ _ _ HX.out]; rfl
          by_cases hq : m ≤ 2048
          · have e1 : (m : Int) ≤ 2048 := by omega
            have hb : B = 64 := by rw [HB.out, if_neg (by omega), if_neg (by omega), if_pos hq]
            go_wp2_with fail
            go_ret
            exact ⟨by rw [hb]; rfl, C1⟩
          · have e1 : ¬ (m : Int) ≤ 2048 := by omega
            go_wp2_with fail
            refine ⟨⟨3, rfl, trivial, by omega, by omega, by omega, by omega⟩, ?_⟩
            decide
        · have y : wr.cell? ⟨g, 3, none⟩ = some (.int .i64 128) := by rw [cell_of_row _ _ _ _ _ _ HX.out]; rfl
          have e1 : (m : Int) ≤ 4096 := by omega
          have hb : B = 128 := by rw [HB.out, if_neg (by omega), if_neg (by omega), if_neg (by omega), if_pos hm]
          go_wp2_with fail
          go_ret
          exact ⟨by rw [hb]; rfl, C1⟩
set_option maxRecDepth 100000 in
set_option maxHeartbeats 4000000 in
theorem ref_count (n : Int) (hn : n ≤ 9223372036854775807) (w : World) : Calls Tryd.prog 18 #[.int .i64 n] w fun e w' => e = .returned (.int .i64 (cntZ n)) ∧ Chg [] w w' := by
  have K := Lib.hid (ref_size n w)
  by_cases h0 : bszZ n = 0
  · have hr : cntZ n = 0 := by
      unfold cntZ
      split
      · rfl
      · rename_i h; unfold bszZ at h0; rw [if_neg h] at h0; unfold cntN; rw [if_pos h0]
    rw [hr]
    rw [h0] at K
    go_enter Tryd.func18, Tryd.ntmps18
    go_wp2_with fail
    refine K.out.mono ?_
    rintro e w1 ⟨rfl, C1⟩
    go_wp2_with fail
    go_loopw [4] (fun v wr => v = .int .i64 0 ∧ wr = w1) (fun _ _ => 0)
    case atStart => exact ⟨rfl, rfl⟩
    case round =>
      obtain ⟨rfl, rfl⟩ := hrel
      go_wp2_with fail
      go_ret
      exact ⟨rfl, C1⟩
  · have hn0 : ¬ n < 0 := fun h => h0 (by unfold bszZ; rw [if_pos h])
    obtain ⟨m, rfl⟩ : ∃ m : Nat, n = m := ⟨n.toNat, by omega⟩
    have hz : bszZ m = bszN m := by unfold bszZ; rw [if_neg hn0]; rfl
    have hc : cntZ m = cntN m := by unfold cntZ; rw [if_neg hn0]; rfl
    rw [hz] at K h0
    rw [hc]
    have hm : m ≤ 4096 := by
      rcases Nat.lt_or_ge 4096 m with h | h
      · exact absurd (bszN_big h) h0
      · exact h
    have HLT := Lib.hid (fun k => cntN_lt hm k)
    have hcl := cntN_le m
    have hbl := bszN_le m
    have hbp : 0 < bszN m := by omega
    generalize cntN m = N at *
    generalize bszN m = B at *
    clear hz hc h0
    have hB0 : (0 : Int) < (B : Int) := by omega
    go_enter Tryd.func18, Tryd.ntmps18
    go_wp2_with fail
    refine K.out.mono ?_
    rintro e w1 ⟨rfl, C1⟩
    go_wp2_with fail
    go_loopw [4] (fun v wr => ∃ k : Nat, v = .int .i64 (k : Int) ∧ k ≤ N ∧ wr = w1) (fun v _ => N - (intOf v).toNat)
    case atStart => exact ⟨0, rfl, by omega, rfl⟩
    case round =>
      obtain ⟨k, rfl, hk, rfl⟩ := hrel
      have hkB : k * B ≤ 32 * 128 := Nat.mul_le_mul (by omega) hbl
      have hm1 : wrap64 ((k : Int) * B) = ((k * B : Nat) : Int) := by unfold wrap64; rw [← Int.natCast_mul]; omega
      by_cases hlt : k < N
      · have h1 := (HLT.out k).1 hlt
        have e1 : ((k * B : Nat) : Int) < m := by omega
        generalize k * B = A at *
        go_wp2_with fail
        refine ⟨⟨k + 1, by rw [Int.natCast_add]; rfl, by omega, trivial⟩, ?_⟩
        show N - ((k : Int) + 1).toNat < N - (k : Int).toNat
        omega
      · have h1 := mt (HLT.out k).2 hlt
        have e1 : ¬ ((k * B : Nat) : Int) < m := by omega
        have HKN := Lib.hid (show k = N by omega)
        generalize k * B = A at *
        go_wp2_with fail
        go_ret
        exact ⟨by rw [← HKN.out]; rfl, C1⟩
end Go.Proofs.YtfdhpjflkimihaaDoor
