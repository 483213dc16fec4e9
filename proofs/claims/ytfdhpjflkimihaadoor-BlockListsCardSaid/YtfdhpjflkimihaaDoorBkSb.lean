/- times, above, Cube and Square of the reference of sha; the roots. No conditions beyond those that each statement types. -/
import Derived.Test.YtfdhpjflkimihaaDoorBkSa
import Derived.Test.YtfdhpjflkimihaaDoorBkShelf
namespace Go.Proofs.YtfdhpjflkimihaaDoor
open Go.RowKit

def tim (hi lo x : Nat) : Nat × Nat := ((lo * x / 18446744073709551616 + hi * x) % 18446744073709551616, lo * x % 18446744073709551616)
theorem tim_lt (hi lo x : Nat) : (tim hi lo x).1 < 18446744073709551616 ∧ (tim hi lo x).2 < 18446744073709551616 := ⟨Nat.mod_lt _ (by decide), Nat.mod_lt _ (by decide)⟩
theorem wrap_lt64 (n : Nat) (h : n < 18446744073709551616) : IntKind.u64.wrap (n : Int) = n := by rw [IntKind.wrap_u64]; omega

set_option maxHeartbeats 1000000 in
theorem ref_times (hi lo x : Nat) (h2 : lo < 18446744073709551616) (h3 : x < 18446744073709551616) (w : World) :
    Calls Tryd.prog 92 #[.int .u64 hi, .int .u64 lo, .int .u64 x] w fun e w' => e = .returned (.tuple #[.int .u64 (tim hi lo x).1, .int .u64 (tim hi lo x).2]) ∧ w' = w := by
  have km := Tryd.bits_Mul64 lo x h2 h3 w
  obtain ⟨A, hA⟩ : ∃ A, lo * x / 18446744073709551616 = A := ⟨_, rfl⟩
  obtain ⟨B, hB⟩ : ∃ A, lo * x % 18446744073709551616 = A := ⟨_, rfl⟩
  obtain ⟨M, hM⟩ : ∃ A, hi * x = A := ⟨_, rfl⟩
  obtain ⟨R, hR⟩ : ∃ Q, (A + M) % 18446744073709551616 = Q := ⟨_, rfl⟩
  have ht : tim hi lo x = (R, B) := by unfold tim; rw [hA, hB, hM, hR]
  rw [ht]
  rw [hA, hB] at km
  have hMi : (hi : Int) * x = (M : Int) := by rw [← hM]; simp
  have hw1 : IntKind.u64.wrap ((hi : Int) * (x : Int)) = ((M % 18446744073709551616 : Nat) : Int) := by rw [IntKind.wrap_u64, hMi]; simp
  have hw1' : ((hi : Int) * (x : Int)) % 18446744073709551616 = ((M % 18446744073709551616 : Nat) : Int) := by rw [hMi]; simp
  obtain ⟨M2, hM2⟩ : ∃ A, M % 18446744073709551616 = A := ⟨_, rfl⟩
  rw [hM2] at hw1 hw1'
  have hw2 : IntKind.u64.wrap ((A : Int) + (M2 : Int)) = R := by rw [IntKind.wrap_u64]; omega
  have hw2' : ((A : Int) + (M2 : Int)) % 18446744073709551616 = R := by omega
  clear hA hB hM hR ht hMi hM2
  go_enter Tryd.func92, Tryd.ntmps92
  go_wp2_with fail
  refine km.mono ?_
  rintro r w' ⟨rfl, rfl⟩
  go_wp2_with fail
  go_ret2
  exact ⟨rfl, rfl⟩

def aboveB (hi lo n k : Nat) : Bool := decide (n * 2 ^ k % 18446744073709551616 < hi) || (hi == n * 2 ^ k % 18446744073709551616 && decide (0 < lo))
set_option maxHeartbeats 1000000 in
theorem ref_above (hi lo n k : Nat) (K : Int) (hK : (k : Int) = K) (hk : k < 64) (w : World) :
    Calls Tryd.prog 93 #[.int .u64 hi, .int .u64 lo, .int .u64 n, .int .i64 K] w fun e w' => e = .returned (.bool (aboveB hi lo n k)) ∧ w' = w := by
  subst hK
  obtain ⟨T, hT⟩ : ∃ A, n * 2 ^ k % 18446744073709551616 = A := ⟨_, rfl⟩
  have hw2 : IntKind.u64.wrap (k : Int) = k := by rw [IntKind.wrap_u64]; omega
  have hsh : (n : Int) * 2 ^ k % 18446744073709551616 = T := by
    rw [← hT]; simp
  have hshw : IntKind.u64.wrap ((n : Int) * 2 ^ k) = T := by rw [IntKind.wrap_u64]; exact hsh
  have hk64 : (k : Int) < 64 := by omega
  have e : aboveB hi lo n k = (decide (T < hi) || (hi == T && decide (0 < lo))) := by unfold aboveB; rw [hT]
  rw [e]
  clear hT e
  by_cases h1 : T < hi
  · have h1' : (T : Int) < hi := by omega
    have e : (decide (T < hi) || (hi == T && decide (0 < lo))) = true := by simp [h1]
    rw [e]
    clear e h1
    go_enter Tryd.func93, Tryd.ntmps93
    go_wp2_with fail
    go_ret
    exact ⟨rfl, rfl⟩
  · have h1' : ¬ (T : Int) < hi := by omega
    by_cases h2 : hi = T
    · subst h2
      by_cases h3 : 0 < lo
      · have h3' : (0 : Int) < lo := by omega
        have e : (decide (hi < hi) || (hi == hi && decide (0 < lo))) = true := by simp [h3]
        rw [e]
        clear e h1
        go_enter Tryd.func93, Tryd.ntmps93
        go_wp2_with fail
        go_ret
        exact ⟨rfl, rfl⟩
      · have h3' : ¬ (0 : Int) < lo := by omega
        have e : (decide (hi < hi) || (hi == hi && decide (0 < lo))) = false := by simp [h3]
        rw [e]
        clear e h1
        go_enter Tryd.func93, Tryd.ntmps93
        go_wp2_with fail
        go_ret
        exact ⟨rfl, rfl⟩
    · have h2' : ((hi : Int) == T) = false := by simpa using fun h : (hi : Int) = T => h2 (by omega)
      have e : (decide (T < hi) || (hi == T && decide (0 < lo))) = false := by simp [h1, h2]
      rw [e]
      clear e h1 h2
      go_enter Tryd.func93, Tryd.ntmps93
      go_wp2_with fail
      go_ret
      exact ⟨rfl, rfl⟩

def stepC (p r b : Nat) : Nat :=
  let x := (r + 2 ^ b) % 18446744073709551616
  if aboveB (tim (tim 0 x x).1 (tim 0 x x).2 x).1 (tim (tim 0 x x).1 (tim 0 x x).2 x).2 p 32 then r else x
def cubeTo (p : Nat) : Nat → Nat
  | 0 => 0
  | k + 1 => stepC p (cubeTo p k) (35 - k)
theorem stepC_lt {p r b : Nat} (h : r < 18446744073709551616) : stepC p r b < 18446744073709551616 := by
  unfold stepC
  dsimp only
  split
  · exact h
  · exact Nat.mod_lt _ (by decide)
theorem cubeTo_lt (p k : Nat) : cubeTo p k < 18446744073709551616 := by
  induction k with
  | zero => exact Nat.zero_lt_succ _
  | succ k ih => exact stepC_lt ih

set_option maxRecDepth 100000 in
set_option maxHeartbeats 4000000 in
theorem ref_cube (p : Nat) (w : World) :
    Calls Tryd.prog 60 #[.int .u64 p] w fun e w' => e = .returned (.int .u32 ((cubeTo p 36 % 4294967296 : Nat) : Int)) ∧ w' = w := by
  go_enter Tryd.func60, Tryd.ntmps60
  go_wp2_with fail
  go_loopw [3, 4] (fun v i wr => ∃ k : Nat, v = .int .u64 (cubeTo p k) ∧ i = .int .i64 (35 - (k : Int)) ∧ k ≤ 36 ∧ wr = w) (fun _ i _ => (intOf i + 1).toNat)
  case atStart => exact ⟨0, rfl, rfl, by omega, rfl⟩
  case round =>
    obtain ⟨k, rfl, rfl, hk, rfl⟩ := hrel
    by_cases hlt : k < 36
    · obtain ⟨b, hb⟩ : ∃ b, 35 - k = b := ⟨_, rfl⟩
      have hbi : (35 : Int) - k = b := by omega
      have hs : cubeTo p (k + 1) = stepC p (cubeTo p k) b := by rw [← hb]; rfl
      have hr := cubeTo_lt p k
      obtain ⟨r, hrr⟩ : ∃ r, cubeTo p k = r := ⟨_, rfl⟩
      rw [hrr] at hs hr ⊢
      have hb35 : b ≤ 35 := by omega
      obtain ⟨x, hx⟩ : ∃ x, (r + 2 ^ b) % 18446744073709551616 = x := ⟨_, rfl⟩
      have hxl : x < 18446744073709551616 := by rw [← hx]; exact Nat.mod_lt _ (by decide)
      have hdef : stepC p r b = if aboveB (tim (tim 0 x x).1 (tim 0 x x).2 x).1 (tim (tim 0 x x).1 (tim 0 x x).2 x).2 p 32 then r else x := by unfold stepC; rw [hx]
      rw [hdef] at hs
      have k1 := ref_times 0 x x hxl hxl
      obtain ⟨⟨h, l⟩, hhl⟩ : ∃ q, tim 0 x x = q := ⟨_, rfl⟩
      have hl1 := (tim_lt 0 x x).2
      rw [hhl] at k1 hs hl1
      have k2 := ref_times h l x hl1 hxl
      obtain ⟨⟨h2, l2⟩, hhl2⟩ : ∃ q, tim h l x = q := ⟨_, rfl⟩
      simp only at hs k1 k2
      rw [hhl2] at k2 hs
      have k3 := ref_above h2 l2 p 32 32 rfl (by decide)
      simp only at hs k2
      obtain ⟨B, hB⟩ : ∃ B, aboveB h2 l2 p 32 = B := ⟨_, rfl⟩
      rw [hB] at hs k3
      have hb2 : (b : Int) < 64 := by omega
      have hb0 : (0 : Int) ≤ b := by omega
      have hwb : IntKind.u64.wrap (b : Int) = b := by rw [IntKind.wrap_u64]; omega
      rw [hbi]
      have hdec : IntKind.i64.wrap ((b : Int) - 1) = 35 - ((k + 1 : Nat) : Int) := by rw [IntKind.wrap_i64]; omega
      obtain ⟨P2, hP2⟩ : ∃ P2, (2 : Nat) ^ b = P2 := ⟨_, rfl⟩
      have hpow : P2 < 18446744073709551616 := by rw [← hP2]; exact Nat.lt_of_le_of_lt (Nat.pow_le_pow_right (by decide) hb35) (by decide)
      have hpi : (2 : Int) ^ b = P2 := by rw [← hP2]; simp
      have hp1 : IntKind.u64.wrap ((2 : Int) ^ b) = P2 := by rw [IntKind.wrap_u64, hpi]; omega
      have hp2 : (2 : Int) ^ b % 18446744073709551616 = P2 := by rw [hpi]; omega
      rw [hP2] at hx
      have hadd : IntKind.u64.wrap ((r : Int) + (P2 : Int)) = x := by rw [IntKind.wrap_u64]; omega
      have hadd' : ((r : Int) + (P2 : Int)) % 18446744073709551616 = x := by omega
      clear hP2 hpi hx hdef hhl hB hrr hb hhl2
      cases B with
      | true =>
        have HS := Lib.hid (hs.trans (by simp : _ = r))
        clear hs
        go_wp2_with fail
        refine (k1 _).mono ?_
        rintro e w' ⟨rfl, rfl⟩
        go_wp2_with fail
        refine (k2 _).mono ?_
        rintro e w' ⟨rfl, rfl⟩
        go_wp2_with fail
        refine (k3 _).mono ?_
        rintro e w' ⟨rfl, rfl⟩
        go_wp2_with fail
        go_roundw
        case rel => exact ⟨k + 1, by rw [HS.out], by go_num, by omega, by trivial⟩
        case measure => simp [intOf]; omega
      | false =>
        have HS := Lib.hid (hs.trans (by simp : _ = x))
        clear hs
        go_wp2_with fail
        refine (k1 _).mono ?_
        rintro e w' ⟨rfl, rfl⟩
        go_wp2_with fail
        refine (k2 _).mono ?_
        rintro e w' ⟨rfl, rfl⟩
        go_wp2_with fail
        refine (k3 _).mono ?_
        rintro e w' ⟨rfl, rfl⟩
        go_wp2_with fail
        go_roundw
        case rel => exact ⟨k + 1, by rw [HS.out], by go_num, by omega, by trivial⟩
        case measure => simp [intOf]; omega
    · obtain rfl : k = 36 := by omega
      have hlt36 := cubeTo_lt p 36
      have hcv : IntKind.u32.wrap (cubeTo p 36 : Int) = ((cubeTo p 36 % 4294967296 : Nat) : Int) := by rw [IntKind.wrap_u32]; simp
      have hcv' : (cubeTo p 36 : Int) % 4294967296 = ((cubeTo p 36 % 4294967296 : Nat) : Int) := by simp
      obtain ⟨V, hV⟩ : ∃ V, cubeTo p 36 % 4294967296 = V := ⟨_, rfl⟩
      rw [hV] at hcv hcv'
      have HV := Lib.hid hV
      obtain ⟨R, hR⟩ : ∃ R, cubeTo p 36 = R := ⟨_, rfl⟩
      rw [hR] at hcv hcv' hlt36 ⊢
      clear hV hR
      rw [show (35 : Int) - ((36 : Nat) : Int) = -1 by omega]
      go_wp2_with fail
      go_ret
      exact ⟨by rw [HV.out]; rfl, rfl⟩

def stepS (p r b : Nat) : Nat :=
  let x := (r + 2 ^ b) % 18446744073709551616
  if aboveB (tim 0 x x).1 (tim 0 x x).2 p 0 then r else x
def squareTo (p : Nat) : Nat → Nat
  | 0 => 0
  | k + 1 => stepS p (squareTo p k) (36 - k)
theorem stepS_lt {p r b : Nat} (h : r < 18446744073709551616) : stepS p r b < 18446744073709551616 := by
  unfold stepS
  dsimp only
  split
  · exact h
  · exact Nat.mod_lt _ (by decide)
theorem squareTo_lt (p k : Nat) : squareTo p k < 18446744073709551616 := by
  induction k with
  | zero => exact Nat.zero_lt_succ _
  | succ k ih => exact stepS_lt ih

set_option maxRecDepth 100000 in
set_option maxHeartbeats 4000000 in
theorem ref_square (p : Nat) (w : World) :
    Calls Tryd.prog 61 #[.int .u64 p] w fun e w' => e = .returned (.int .u32 ((squareTo p 37 % 4294967296 : Nat) : Int)) ∧ w' = w := by
  go_enter Tryd.func61, Tryd.ntmps61
  go_wp2_with fail
  go_loopw [3, 4] (fun v i wr => ∃ k : Nat, v = .int .u64 (squareTo p k) ∧ i = .int .i64 (36 - (k : Int)) ∧ k ≤ 37 ∧ wr = w) (fun _ i _ => (intOf i + 1).toNat)
  case atStart => exact ⟨0, rfl, rfl, by omega, rfl⟩
  case round =>
    obtain ⟨k, rfl, rfl, hk, rfl⟩ := hrel
    by_cases hlt : k < 37
    · obtain ⟨b, hb⟩ : ∃ b, 36 - k = b := ⟨_, rfl⟩
      have hbi : (36 : Int) - k = b := by omega
      have hs : squareTo p (k + 1) = stepS p (squareTo p k) b := by rw [← hb]; rfl
      have hr := squareTo_lt p k
      obtain ⟨r, hrr⟩ : ∃ r, squareTo p k = r := ⟨_, rfl⟩
      rw [hrr] at hs hr ⊢
      have hb35 : b ≤ 36 := by omega
      obtain ⟨x, hx⟩ : ∃ x, (r + 2 ^ b) % 18446744073709551616 = x := ⟨_, rfl⟩
      have hxl : x < 18446744073709551616 := by rw [← hx]; exact Nat.mod_lt _ (by decide)
      have hdef : stepS p r b = if aboveB (tim 0 x x).1 (tim 0 x x).2 p 0 then r else x := by unfold stepS; rw [hx]
      rw [hdef] at hs
      have k1 := ref_times 0 x x hxl hxl
      obtain ⟨⟨h, l⟩, hhl⟩ : ∃ q, tim 0 x x = q := ⟨_, rfl⟩
      rw [hhl] at k1 hs
      have k3 := ref_above h l p 0 0 rfl (by decide)
      simp only at hs k1
      obtain ⟨B, hB⟩ : ∃ B, aboveB h l p 0 = B := ⟨_, rfl⟩
      rw [hB] at hs k3
      have hb2 : (b : Int) < 64 := by omega
      have hb0 : (0 : Int) ≤ b := by omega
      have hwb : IntKind.u64.wrap (b : Int) = b := by rw [IntKind.wrap_u64]; omega
      rw [hbi]
      have hdec : IntKind.i64.wrap ((b : Int) - 1) = 36 - ((k + 1 : Nat) : Int) := by rw [IntKind.wrap_i64]; omega
      obtain ⟨P2, hP2⟩ : ∃ P2, (2 : Nat) ^ b = P2 := ⟨_, rfl⟩
      have hpow : P2 < 18446744073709551616 := by rw [← hP2]; exact Nat.lt_of_le_of_lt (Nat.pow_le_pow_right (by decide) hb35) (by decide)
      have hpi : (2 : Int) ^ b = P2 := by rw [← hP2]; simp
      have hp1 : IntKind.u64.wrap ((2 : Int) ^ b) = P2 := by rw [IntKind.wrap_u64, hpi]; omega
      have hp2 : (2 : Int) ^ b % 18446744073709551616 = P2 := by rw [hpi]; omega
      rw [hP2] at hx
      have hadd : IntKind.u64.wrap ((r : Int) + (P2 : Int)) = x := by rw [IntKind.wrap_u64]; omega
      have hadd' : ((r : Int) + (P2 : Int)) % 18446744073709551616 = x := by omega
      clear hP2 hpi hx hdef hhl hB hrr hb
      cases B with
      | true =>
        have HS := Lib.hid (hs.trans (by simp : _ = r))
        clear hs
        go_wp2_with fail
        refine (k1 _).mono ?_
        rintro e w' ⟨rfl, rfl⟩
        go_wp2_with fail
        refine (k3 _).mono ?_
        rintro e w' ⟨rfl, rfl⟩
        go_wp2_with fail
        go_roundw
        case rel => exact ⟨k + 1, by rw [HS.out], by go_num, by omega, by trivial⟩
        case measure => simp [intOf]; omega
      | false =>
        have HS := Lib.hid (hs.trans (by simp : _ = x))
        clear hs
        go_wp2_with fail
        refine (k1 _).mono ?_
        rintro e w' ⟨rfl, rfl⟩
        go_wp2_with fail
        refine (k3 _).mono ?_
        rintro e w' ⟨rfl, rfl⟩
        go_wp2_with fail
        go_roundw
        case rel => exact ⟨k + 1, by rw [HS.out], by go_num, by omega, by trivial⟩
        case measure => simp [intOf]; omega
    · obtain rfl : k = 37 := by omega
      have hlt36 := squareTo_lt p 37
      have hcv : IntKind.u32.wrap (squareTo p 37 : Int) = ((squareTo p 37 % 4294967296 : Nat) : Int) := by rw [IntKind.wrap_u32]; simp
      have hcv' : (squareTo p 37 : Int) % 4294967296 = ((squareTo p 37 % 4294967296 : Nat) : Int) := by simp
      obtain ⟨V, hV⟩ : ∃ V, squareTo p 37 % 4294967296 = V := ⟨_, rfl⟩
      rw [hV] at hcv hcv'
      have HV := Lib.hid hV
      obtain ⟨R, hR⟩ : ∃ R, squareTo p 37 = R := ⟨_, rfl⟩
      rw [hR] at hcv hcv' hlt36 ⊢
      clear hV hR
      rw [show (36 : Int) - ((37 : Nat) : Int) = -1 by omega]
      go_wp2_with fail
      go_ret
      exact ⟨by rw [HV.out]; rfl, rfl⟩

/-- The roots are the package's. -/
theorem cubes_are : ∀ i : Fin 64, UInt32.ofNat (cubeTo ((pl 312).getD i.val 0) 36 % 4294967296) = rootL.getD i.val 0 := by decide +kernel
theorem squares_are : ∀ i : Fin 8, UInt32.ofNat (squareTo ((pl 312).getD i.val 0) 37 % 4294967296) = firstL.getD i.val 0 := by decide +kernel
end Go.Proofs.YtfdhpjflkimihaaDoor
