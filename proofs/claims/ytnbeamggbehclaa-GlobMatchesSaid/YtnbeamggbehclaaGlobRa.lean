/- The reference's other and within, walked. No conditions beyond those that each statement types. -/
import Derived.Test.YtnbeamggbehclaaGlobX
namespace Go.Proofs.Ytnbeamggbehclaa
open Go.RowKit

theorem ref_other (c : UInt8) (w : World) : Calls Try.prog 58 #[bv c] w fun e w' => e = .returned (bv (otherB c)) ∧ w' = w := by
  have h256 := c.toNat_lt
  have k1 : (97 : UInt8).toNat = 97 := rfl
  have k2 : (122 : UInt8).toNat = 122 := rfl
  have k3 : (65 : UInt8).toNat = 65 := rfl
  have k4 : (90 : UInt8).toNat = 90 := rfl
  have hs : (c - 32).toNat = (224 + c.toNat) % 256 := UInt8.toNat_sub c 32
  have ha : (c + 32).toNat = (c.toNat + 32) % 256 := UInt8.toNat_add c 32
  by_cases h : 97 ≤ c.toNat ∧ c.toNat ≤ 122
  · have e : bv (otherB c) = .int .u8 ((c.toNat : Int) - 32) := by
      unfold bv otherB
      rw [if_pos (by simp only [UInt8.le_iff_toNat_le, k1, k2]; exact h), hs]
      congr 1
      omega
    rw [e]
    unfold bv
    have p1 : (97 : Int) ≤ c.toNat := by omega
    have p2 : (c.toNat : Int) ≤ 122 := by omega
    have w1 : IntKind.u8.wrap ((c.toNat : Int) - 32) = c.toNat - 32 := by rw [IntKind.wrap_u8]; omega
    clear e hs ha k1 k2 k3 k4 h
    generalize (c.toNat : Int) = x at *
    go_enter Try.func58, Try.ntmps58
    go_wp2_with fail
    go_ret
    exact ⟨rfl, rfl⟩
  · by_cases g : 65 ≤ c.toNat ∧ c.toNat ≤ 90
    · have e : bv (otherB c) = .int .u8 ((c.toNat : Int) + 32) := by
        unfold bv otherB
        rw [if_neg (by simp only [UInt8.le_iff_toNat_le, k1, k2]; exact h), if_pos (by simp only [UInt8.le_iff_toNat_le, k3, k4]; exact g), ha]
        congr 1
        omega
      rw [e]
      unfold bv
      have p1 : ¬ (97 : Int) ≤ c.toNat := by omega
      have p3 : (65 : Int) ≤ c.toNat := by omega
      have p4 : (c.toNat : Int) ≤ 90 := by omega
      have w1 : IntKind.u8.wrap ((c.toNat : Int) + 32) = c.toNat + 32 := by rw [IntKind.wrap_u8]; omega
      clear e hs ha k1 k2 k3 k4 h g
      generalize (c.toNat : Int) = x at *
      go_enter Try.func58, Try.ntmps58
      go_wp2_with fail
      go_ret
      exact ⟨rfl, rfl⟩
    · have e : bv (otherB c) = .int .u8 c.toNat := by
        unfold bv otherB
        rw [if_neg (by simp only [UInt8.le_iff_toNat_le, k1, k2]; exact h), if_neg (by simp only [UInt8.le_iff_toNat_le, k3, k4]; exact g)]
      rw [e]
      unfold bv
      clear e hs ha k1 k2 k3 k4
      by_cases p1 : (97 : Int) ≤ c.toNat
      · have p2 : ¬ (c.toNat : Int) ≤ 122 := by omega
        have p3 : (65 : Int) ≤ c.toNat := by omega
        have p4 : ¬ (c.toNat : Int) ≤ 90 := by omega
        clear h g
        generalize (c.toNat : Int) = x at *
        go_enter Try.func58, Try.ntmps58
        go_wp2_with fail
        go_ret
        exact ⟨rfl, rfl⟩
      · by_cases p3 : (65 : Int) ≤ c.toNat
        · have p4 : ¬ (c.toNat : Int) ≤ 90 := by omega
          clear h g
          generalize (c.toNat : Int) = x at *
          go_enter Try.func58, Try.ntmps58
          go_wp2_with fail
          go_ret
          exact ⟨rfl, rfl⟩
        · clear h g
          generalize (c.toNat : Int) = x at *
          go_enter Try.func58, Try.ntmps58
          go_wp2_with fail
          go_ret
          exact ⟨rfl, rfl⟩

set_option maxRecDepth 100000 in
set_option maxHeartbeats 4000000 in
theorem ref_within (x : UInt8) (a : Option Addr) (n c : Nat) (rs : List (UInt8 × UInt8)) (w : World) (hn : rs.length = n) (ho : w.ownsRow 0 90 2 (.slice a n c) n (rvs rs)) (hs : n ≤ 1000000) :
    Calls Try.prog 57 #[.slice a n c, bv x] w fun e w' => e = .returned (.bool (inB rs x)) ∧ w' = w := by
  obtain ⟨X, hX⟩ : ∃ X : Int, (x.toNat : Int) = X := ⟨_, rfl⟩
  have HX := Lib.hid hX
  obtain ⟨B, hB⟩ : ∃ B, inB rs x = B := ⟨_, rfl⟩
  have HB := Lib.hid hB
  rw [hB]
  clear hB
  have HN := Lib.hid hn
  have hcell : Hid (∀ k r, rs[k]? = some r → ∃ g, a = some ⟨g, 0, none⟩ ∧ w.cell? ⟨g, k * 2, none⟩ = some (bv r.1) ∧ w.cell? ⟨g, k * 2 + 1, none⟩ = some (bv r.2)) := Lib.hid (fun k r hk => by
    have hlt : k < rs.length := (List.getElem?_eq_some_iff.1 hk).1
    obtain ⟨g, rfl⟩ := ownsRow_head ho (by omega)
    obtain ⟨h1, h2⟩ := rvs_at hk
    exact ⟨g, rfl, by have := ho.cells (g := g) rfl _ _ h1; rwa [addr_add0] at this, by have := ho.cells (g := g) rfl _ _ h2; rwa [addr_add0] at this⟩)
  unfold bv at *
  rw [hX]
  clear hX hn ho
  go_enter Try.func57, Try.ntmps57
  go_wp2_with fail
  go_loop [5] (fun i => ∃ k : Nat, i = .int .i64 k ∧ k ≤ n ∧ Hid (inB (rs.take k) x = false)) (fun i => n - (intOf i).toNat)
  case atStart => exact ⟨0, rfl, by omega, Lib.hid rfl⟩
  case round =>
    obtain ⟨k, rfl, hk, hI⟩ := hrel
    by_cases hlt : k < n
    · have hlt' : (k : Int) < n := by omega
      have hk0 : (0 : Int) ≤ k := by omega
      obtain ⟨r, hrk⟩ : ∃ r, rs[k]? = some r := ⟨_, List.getElem?_eq_getElem (by rw [HN.out]; exact hlt)⟩
      obtain ⟨g, rfl, c0, c1⟩ := hcell.out k r hrk
      have HT := Lib.hid (inB_take_succ hrk x)
      have hX := HX.out
      have hle1 : r.1 ≤ x ↔ (r.1.toNat : Int) ≤ X := by rw [UInt8.le_iff_toNat_le, ← hX]; omega
      have hle2 : x ≤ r.2 ↔ X ≤ (r.2.toNat : Int) := by rw [UInt8.le_iff_toNat_le, ← hX]; omega
      have HT2 : Hid (inB (rs.take (k + 1)) x = (inB (rs.take k) x || decide ((r.1.toNat : Int) ≤ X ∧ X ≤ r.2.toNat))) := Lib.hid (by rw [← decide_eq_decide.2 (and_congr hle1 hle2)]; exact HT.out)
      clear HT
      clear hle1 hle2 hX hrk
      generalize (r.1.toNat : Int) = lo at *
      generalize (r.2.toNat : Int) = hi at *
      by_cases h1 : lo ≤ X
      · by_cases h2 : X ≤ hi
        · have hres : inB rs x = true := inB_of_take (k := k + 1) (by rw [HT2.out, decide_eq_true ⟨h1, h2⟩]; simp)
          obtain rfl : B = true := by rw [← HB.out]; exact hres
          clear hres
          go_wp2_with fail
          go_ret
          exact ⟨rfl, rfl⟩
        · go_wp2_with fail
          go_round
          case rel => exact ⟨k + 1, by go_num, by omega, Lib.hid (by rw [HT2.out, hI.out, decide_eq_false (fun h => h2 h.2)]; rfl)⟩
          case measure => simp [intOf]; omega
      · go_wp2_with fail
        go_round
        case rel => exact ⟨k + 1, by go_num, by omega, Lib.hid (by rw [HT2.out, hI.out, decide_eq_false (fun h => h1 h.1)]; rfl)⟩
        case measure => simp [intOf]; omega
    · have hkn : k = n := by omega
      have hres : inB rs x = false := by
        have := hI.out
        rwa [hkn, List.take_of_length_le (by rw [HN.out]; exact Nat.le_refl _)] at this
      obtain rfl : B = false := by rw [← HB.out]; exact hres
      clear hres hlt
      subst hkn
      go_wp2_with fail
      go_ret
      exact ⟨rfl, rfl⟩
end Go.Proofs.Ytnbeamggbehclaa
