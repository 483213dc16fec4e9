/- prime, Primes, times, above and turned of the reference of sha. No conditions beyond those that each statement types. -/
import Derived.Test.YtfdhpjflkimihaaDoorBkE
import Derived.Test.YtfdhpjflkimihaaDoorBkShelf
namespace Go.Proofs.YtfdhpjflkimihaaDoor
open Go.RowKit

def primeB (n : Nat) : Bool := decide (1 < n) && (List.range n).all fun d => decide (d < 2) || decide (n < d * d) || n % d != 0
theorem primeB_no {n d : Nat} (h2 : 2 ≤ d) (hd : d * d ≤ n) (hr : n % d = 0) : primeB n = false := by
  unfold primeB
  rw [Bool.and_eq_false_iff]
  right
  rw [List.all_eq_false]
  have hdn : d < n := by
    have : d * 2 ≤ d * d := Nat.mul_le_mul_left d h2
    omega
  refine ⟨d, List.mem_range.2 hdn, ?_⟩
  have h1 : ¬ d < 2 := by omega
  have h3 : ¬ n < d * d := by omega
  simp [h1, h3, hr]
theorem primeB_yes {n D : Nat} (h1 : 1 < n) (hD : n < D * D) (h : ∀ d, 2 ≤ d → d < D → n % d ≠ 0) : primeB n = true := by
  unfold primeB
  rw [Bool.and_eq_true, List.all_eq_true]
  refine ⟨by simpa using h1, fun d _ => ?_⟩
  by_cases hd2 : d < 2
  · simp [hd2]
  · by_cases hdd : d < D
    · have := h d (by omega) hdd
      simp [this]
    · have : D * D ≤ d * d := Nat.mul_le_mul (by omega) (by omega)
      have : n < d * d := by omega
      simp [this]

theorem ref_prime (n : Nat) (h1 : 1 < n) (hn : n ≤ 1000) (w : World) : Calls Tryd.prog 91 #[.int .u64 n] w fun e w' => e = .returned (.bool (primeB n)) ∧ w' = w := by
  obtain ⟨B, hB⟩ : ∃ B, primeB n = B := ⟨_, rfl⟩
  have HB := Lib.hid hB
  rw [hB]
  clear hB
  have h1' : (1 : Int) < n := by omega
  go_enter Tryd.func91, Tryd.ntmps91
  go_wp2_with fail
  go_loopw [3] (fun v wr => ∃ d : Nat, v = .int .u64 d ∧ 2 ≤ d ∧ d ≤ 40 ∧ Hid (∀ e, 2 ≤ e → e < d → n % e ≠ 0) ∧ wr = w) (fun v _ => 41 - (intOf v).toNat)
  case atStart => exact ⟨2, rfl, by omega, by omega, Lib.hid (fun e h1 h2 => by omega), rfl⟩
  case round =>
    obtain ⟨d, rfl, hd2, hd40, hall, rfl⟩ := hrel
    obtain ⟨q, hq⟩ : ∃ q, d * d = q := ⟨_, rfl⟩
    have hq2 : q ≤ 1600 := by rw [← hq]; exact Nat.mul_le_mul hd40 hd40
    have hqi : (d : Int) * d = (q : Int) := by rw [← hq]; simp
    have hw : IntKind.u64.wrap ((d : Int) * (d : Int)) = q := by rw [IntKind.wrap_u64, hqi]; omega
    have HQ := Lib.hid hq
    clear hq hqi
    by_cases hle : q ≤ n
    · have hle' : (q : Int) ≤ n := by omega
      obtain ⟨r, hr⟩ : ∃ r, n % d = r := ⟨_, rfl⟩
      have hrt : (n : Int).tmod d = (r : Int) := by rw [Int.tmod_eq_emod_of_nonneg (by omega), ← hr]; simp
      have hd0 : ¬ (d : Int) = 0 := by omega
      have hd0' : ((d : Int) == 0) = false := by simpa using hd0
      have hdn : ¬ d = 0 := by omega
      have hinc : IntKind.u64.wrap ((d : Int) + 1) = ((d + 1 : Nat) : Int) := by rw [IntKind.wrap_u64]; omega
      have hd39 : d ≤ 39 := by
        rcases Nat.lt_or_ge d 40 with h | h
        · omega
        · have : 40 * 40 ≤ d * d := Nat.mul_le_mul h h
          rw [HQ.out] at this
          omega
      have HR := Lib.hid hr
      clear hr
      by_cases hr0 : r = 0
      · subst hr0
        have hno := primeB_no hd2 (by rw [HQ.out]; exact hle) HR.out
        rw [HB.out] at hno
        subst hno
        go_wp2_with fail
        go_ret
        exact ⟨rfl, rfl⟩
      · have hr0' : ((r : Int) == 0) = false := by simpa using hr0
        have hr0'' : ¬ (r : Int) = 0 := by omega
        go_wp2_with fail
        go_roundw
        case rel => exact ⟨d + 1, by go_num, by omega, by omega, Lib.hid (fun e he1 he2 => by
          rcases Nat.lt_or_ge e d with h | h
          · exact hall.out e he1 h
          · obtain rfl : e = d := by omega
            rw [HR.out]; exact hr0), by trivial⟩
        case measure => simp [intOf]; omega
    · have hle' : ¬ (q : Int) ≤ n := by omega
      have hyes := primeB_yes h1 (by rw [HQ.out]; omega) hall.out
      rw [HB.out] at hyes
      subst hyes
      go_wp2_with fail
      go_ret
      exact ⟨rfl, rfl⟩

/-- The primes below n, as u64 cells. -/
def pl (n : Nat) : List Nat := (List.range n).filter primeB
def uvs (l : List Nat) : List Value := l.map fun x : Nat => .int .u64 x
theorem uvs_append (a b : List Nat) : uvs (a ++ b) = uvs a ++ uvs b := by simp [uvs]
theorem uvs_one (l : List Nat) : ∀ u ∈ uvs l, u.oneCell' = true := by
  intro u hu
  obtain ⟨_, _, rfl⟩ := List.mem_map.1 hu
  rfl
theorem pl_succ (n : Nat) : pl (n + 1) = if primeB n then pl n ++ [n] else pl n := by
  unfold pl
  rw [List.range_succ, List.filter_append]
  cases h : primeB n <;> simp [h]
theorem pl_len : (pl 312).length = 64 := by decide +kernel
theorem pl_311 : (pl 311).length = 63 := by decide +kernel
theorem pl_le {m n : Nat} (h : m ≤ n) : (pl m).length ≤ (pl n).length := by
  induction n with
  | zero =>
    have : m = 0 := by omega
    subst this; exact Nat.le_refl _
  | succ n ih =>
    by_cases hm : m ≤ n
    · refine Nat.le_trans (ih hm) ?_
      rw [pl_succ]
      split
      · simp
      · exact Nat.le_refl _
    · have : m = n + 1 := by omega
      subst this; exact Nat.le_refl _
theorem pl_few {n : Nat} (h : n ≤ 312) : (pl n).length < 64 ↔ n < 312 := by
  constructor
  · intro h1
    rcases Nat.lt_or_ge n 312 with h2 | h2
    · exact h2
    · have : n = 312 := by omega
      subst this
      rw [pl_len] at h1; omega
  · intro h1
    have := pl_le (show n ≤ 311 by omega)
    rw [pl_311] at this
    omega
theorem Tryd.infoU64 : (Tryd.prog.info? 113).map (fun i => (i.zero, i.size, i.bytes)) = some (some (.int .u64 0), 1, 8) := by kernel_rfl

/-- A row of the call's own, new since w. -/
def ListedV (w : World) (t : TypeId) (l : List Value) (r : Ending) (w' : World) : Prop :=
  ∃ v, r = .returned v ∧ w'.ownsRow 0 t 1 v l.length l ∧ Chg [] w w' ∧ ∀ k, v.ownBlock = some k → w.heap.size ≤ k

theorem src_one_v {wr : World} {x : Value} {t : TypeId} : Src (wr.alloc (Obj.cells #[x] t)) (some ⟨wr.heap.size, 0, none⟩) [x] := by
  have hnx := heap_alloc_new wr (Obj.cells #[x] t)
  refine ⟨fun h => by (cases h), fun q hq j u hu => ?_⟩
  cases hq
  rw [addr_add0, cell_of_row _ _ _ _ _ _ hnx]
  simpa using hu

set_option maxHeartbeats 4000000 in
theorem ref_primes (w : World) : Calls Tryd.prog 59 #[.int .i64 64] w (ListedV w 113 (uvs (pl 312))) := by
  obtain ⟨iu, hiu, hiuz, hius, hiub⟩ := info_parts Tryd.infoU64
  have HPR := Lib.hid (fun n w h1 h2 => ref_prime n h1 h2 w)
  have HLEN : Hid ((uvs (pl 312)).length = 64) := Lib.hid (by rw [uvs, List.length_map, pl_len])
  go_enter Tryd.func59, Tryd.ntmps59
  go_wp2_with fail
  go_loopw [3, 4] (fun v i wr => ∃ (k n c : Nat) (a : Option Addr), v = .slice a n c ∧ i = .int .u64 k ∧ 2 ≤ k ∧ k ≤ 312 ∧ (pl k).length = n ∧ wr.ownsRow 0 113 1 (.slice a n c) n (uvs (pl k)) ∧ Chg [] w wr ∧ ∀ q, (Value.slice a n c).ownBlock = some q → w.heap.size ≤ q) (fun _ i _ => 312 - (intOf i).toNat)
  case atStart => exact ⟨2, 0, 0, none, rfl, rfl, by omega, by omega, by decide +kernel, by
    have : uvs (pl 2) = [] := by decide +kernel
    rw [this]; exact World.ownsRow_nil _ _ _ _, Chg.refl _ _, fun q hq => by cases hq⟩
  case round =>
    obtain ⟨k, n, c, a, rfl, rfl, hk2, hk, hn, ho, C, hnew⟩ := hrel
    have hfew := pl_few hk
    rw [hn] at hfew
    have HN := Lib.hid hn
    have hl := ownsRow_lt ho
    have hn64 : n ≤ 64 := by
      have := pl_le hk
      rw [pl_len, hn] at this
      exact this
    by_cases hlt : n < 64
    · have hlt' : (n : Int) < 64 := by omega
      have hk312 := hfew.1 hlt
      have hinc : IntKind.u64.wrap ((k : Int) + 1) = ((k + 1 : Nat) : Int) := by rw [IntKind.wrap_u64]; omega
      have hs := pl_succ k
      have hpr := HPR.out k wr (by omega) (by omega)
      obtain ⟨B, hB⟩ : ∃ B, primeB k = B := ⟨_, rfl⟩
      rw [hB] at hs hpr
      clear hB hfew hn
      cases B with
      | false =>
        have HS := Lib.hid (hs.trans (by simp : _ = pl k))
        clear hs
        go_wp2_with fail
        refine hpr.mono ?_
        rintro r w' ⟨rfl, rfl⟩
        go_wp2_with fail
        go_roundw
        case rel => exact ⟨k + 1, n, c, a, rfl, by go_num, by omega, by omega, by rw [HS.out]; exact HN.out, by rw [HS.out]; exact ho, C, hnew⟩
        case measure => simp [intOf]; omega
      | true =>
        have HS := Lib.hid (hs.trans (by simp : _ = pl k ++ [k]))
        have CA := Chg.alloc [] wr (Obj.cells #[.int .u64 k] 113)
        clear hs
        go_wp2_with fail
        refine hpr.mono ?_
        rintro r w' ⟨rfl, rfl⟩
        go_wp2_with (at_builtin; refine wpList_append_x _ rfl _ _ 109 rfl 113 iu _ 1 8 Tryd.underlying109 hiu hiuz hius hiub rfl (by decide) (.slice a n c) n (uvs (pl k)) rfl (ownsRow_chg ho (Chg.alloc [] _ _) (by simp)) (some ⟨w'.heap.size, 0, none⟩) 1 1 (uvs [k]) rfl rfl src_one_v (fun h => by cases h) (uvs_one _) (by unfold maxLen; omega) (by omega) ?_)
        intro ao2 c2 w1 hown hgr hblk
        have C1 : Chg [] w w1 := (C.trans CA (by simp)).trans (Chg.grown hgr (S := (Value.slice a n c).ownBlock.toList) (by intro q hq; left; simp [hq])) (by intro q hq; right; exact hnew q (by simpa using hq))
        have hnew1 : ∀ q, (Value.slice ao2 (n + 1) c2).ownBlock = some q → w.heap.size ≤ q := by
          intro q hq
          have h0 := C.size
          rcases hblk with h1 | h1 <;> rw [h1] at hq
          · exact hnew q hq
          · have := Option.some.inj hq; try simp only [World.size_alloc] at this
            omega
        go_wp2_with fail
        go_roundw
        case rel => exact ⟨k + 1, n + 1, c2, ao2, rfl, by go_num, by omega, by omega, by rw [HS.out, List.length_append, HN.out]; rfl, by rw [HS.out, uvs_append]; exact hown, C1, hnew1⟩
        case measure => simp [intOf]; omega
    · have hn0 : n = 64 := by omega
      have hk0 : k = 312 := by
        rcases Nat.lt_or_ge k 312 with h | h
        · have := hfew.2 h; omega
        · omega
      subst hk0
      subst hn0
      clear hfew
      go_wp2_with fail
      go_ret
      exact ⟨_, rfl, by rw [HLEN.out]; exact ho, C, hnew⟩

/-- turned is right. -/
theorem ref_turned (x : UInt32) (k : Nat) (K : Int) (hK : (k : Int) = K) (h1 : 1 ≤ k) (h2 : k ≤ 31) (w : World) :
    Calls Tryd.prog 64 #[.int .u32 x.toNat, .int .i64 K] w fun e w' => e = .returned (.int .u32 (rotr x k).toNat) ∧ w' = w := by
  subst hK
  obtain ⟨s, hs⟩ : ∃ s : Nat, 32 - k = s := ⟨_, rfl⟩
  have e1 : (32 : Int) - k = s := by omega
  have hw1 : IntKind.i64.wrap ((32 : Int) - k) = s := by rw [IntKind.wrap_i64]; omega
  have hw2 : IntKind.u64.wrap (k : Int) = k := by rw [IntKind.wrap_u64]; omega
  have hw3 : IntKind.u64.wrap (s : Int) = s := by rw [IntKind.wrap_u64]; omega
  have hs32 : (s : Int) < 32 := by omega
  have hk32 : (k : Int) < 32 := by omega
  have hs0 : (0 : Int) ≤ s := by omega
  have HS := Lib.hid hs
  clear hs
  go_enter Tryd.func64, Tryd.ntmps64
  go_wp2_with fail
  go_ret
  refine ⟨?_, rfl⟩
  show Ending.returned (.int .u32 (bits .or .u32 ((x.toNat : Int) / 2 ^ k) ((x.toNat : Int) * 2 ^ s % 4294967296))) = _
  rw [u_shl, u_shr, u_or, rotr, HS.out, UInt32.or_comm]
end Go.Proofs.YtfdhpjflkimihaaDoor
/- times, above, Cube and Square of the reference of sha; the roots. No conditions beyond those that each statement types. -/
namespace Go.Proofs.YtfdhpjflkimihaaDoor
open Go.RowKit

def tim (hi lo x : Nat) : Nat × Nat := ((lo * x / 18446744073709551616 + hi * x) % 18446744073709551616, lo * x % 18446744073709551616)
theorem tim_lt (hi lo x : Nat) : (tim hi lo x).1 < 18446744073709551616 ∧ (tim hi lo x).2 < 18446744073709551616 := ⟨Nat.mod_lt _ (by decide), Nat.mod_lt _ (by decide)⟩
theorem wrap_lt64 (n : Nat) (h : n < 18446744073709551616) : IntKind.u64.wrap (n : Int) = n := by rw [IntKind.wrap_u64]; omega

set_option maxHeartbeats 1000000 in
theorem ref_times (hi lo x : Nat) (h2 : lo < 18446744073709551616) (h3 : x < 18446744073709551616) (w : World) :
    Calls Tryd.prog 92 #[.int .u64 hi, .int .u64 lo, .int .u64 x] w fun e w' => e = .returned (.tuple #[.int .u64 (tim hi lo x).1, .int .u64 (tim hi lo x).2]) ∧ w' = w := by
  have km := Tryd.bits_Mul64 lo x h2 h3 w
  obtain ⟨A, hA⟩ : ∃ A, lo * x / 18446744073709551616 = A := ⟨_, rfl⟩
  obtain ⟨B, hB⟩ : ∃ A, lo * x % 18446744073709551616 = A := ⟨_, rfl⟩
  obtain ⟨M, hM⟩ : ∃ A, hi * x = A := ⟨_, rfl⟩
  obtain ⟨R, hR⟩ : ∃ Q, (A + M) % 18446744073709551616 = Q := ⟨_, rfl⟩
  have ht : tim hi lo x = (R, B) := by unfold tim; rw [hA, hB, hM, hR]
  rw [ht]
  rw [hA, hB] at km
  have hMi : (hi : Int) * x = (M : Int) := by rw [← hM]; simp
  have hw1 : IntKind.u64.wrap ((hi : Int) * (x : Int)) = ((M % 18446744073709551616 : Nat) : Int) := by rw [IntKind.wrap_u64, hMi]; simp
  have hw1' : ((hi : Int) * (x : Int)) % 18446744073709551616 = ((M % 18446744073709551616 : Nat) : Int) := by rw [hMi]; simp
  obtain ⟨M2, hM2⟩ : ∃ A, M % 18446744073709551616 = A := ⟨_, rfl⟩
  rw [hM2] at hw1 hw1'
  have hw2 : IntKind.u64.wrap ((A : Int) + (M2 : Int)) = R := by rw [IntKind.wrap_u64]; omega
  have hw2' : ((A : Int) + (M2 : Int)) % 18446744073709551616 = R := by omega
  clear hA hB hM hR ht hMi hM2
  go_enter Tryd.func92, Tryd.ntmps92
  go_wp2_with fail
  refine km.mono ?_
  rintro r w' ⟨rfl, rfl⟩
  go_wp2_with fail
  go_ret2
  exact ⟨rfl, rfl⟩

def aboveB (hi lo n k : Nat) : Bool := decide (n * 2 ^ k % 18446744073709551616 < hi) || (hi == n * 2 ^ k % 18446744073709551616 && decide (0 < lo))
set_option maxHeartbeats 1000000 in
theorem ref_above (hi lo n k : Nat) (K : Int) (hK : (k : Int) = K) (hk : k < 64) (w : World) :
    Calls Tryd.prog 93 #[.int .u64 hi, .int .u64 lo, .int .u64 n, .int .i64 K] w fun e w' => e = .returned (.bool (aboveB hi lo n k)) ∧ w' = w := by
  subst hK
  obtain ⟨T, hT⟩ : ∃ A, n * 2 ^ k % 18446744073709551616 = A := ⟨_, rfl⟩
  have hw2 : IntKind.u64.wrap (k : Int) = k := by rw [IntKind.wrap_u64]; omega
  have hsh : (n : Int) * 2 ^ k % 18446744073709551616 = T := by
    rw [← hT]; simp
  have hshw : IntKind.u64.wrap ((n : Int) * 2 ^ k) = T := by rw [IntKind.wrap_u64]; exact hsh
  have hk64 : (k : Int) < 64 := by omega
  have e : aboveB hi lo n k = (decide (T < hi) || (hi == T && decide (0 < lo))) := by unfold aboveB; rw [hT]
  rw [e]
  clear hT e
  by_cases h1 : T < hi
  · have h1' : (T : Int) < hi := by omega
    have e : (decide (T < hi) || (hi == T && decide (0 < lo))) = true := by simp [h1]
    rw [e]
    clear e h1
    go_enter Tryd.func93, Tryd.ntmps93
    go_wp2_with fail
    go_ret
    exact ⟨rfl, rfl⟩
  · have h1' : ¬ (T : Int) < hi := by omega
    by_cases h2 : hi = T
    · subst h2
      by_cases h3 : 0 < lo
      · have h3' : (0 : Int) < lo := by omega
        have e : (decide (hi < hi) || (hi == hi && decide (0 < lo))) = true := by simp [h3]
        rw [e]
        clear e h1
        go_enter Tryd.func93, Tryd.ntmps93
        go_wp2_with fail
        go_ret
        exact ⟨rfl, rfl⟩
      · have h3' : ¬ (0 : Int) < lo := by omega
        have e : (decide (hi < hi) || (hi == hi && decide (0 < lo))) = false := by simp [h3]
        rw [e]
        clear e h1
        go_enter Tryd.func93, Tryd.ntmps93
        go_wp2_with fail
        go_ret
        exact ⟨rfl, rfl⟩
    · have h2' : ((hi : Int) == T) = false := by simpa using fun h : (hi : Int) = T => h2 (by omega)
      have e : (decide (T < hi) || (hi == T && decide (0 < lo))) = false := by simp [h1, h2]
      rw [e]
      clear e h1 h2
      go_enter Tryd.func93, Tryd.ntmps93
      go_wp2_with fail
      go_ret
      exact ⟨rfl, rfl⟩

def stepC (p r b : Nat) : Nat :=
  let x := (r + 2 ^ b) % 18446744073709551616
  if aboveB (tim (tim 0 x x).1 (tim 0 x x).2 x).1 (tim (tim 0 x x).1 (tim 0 x x).2 x).2 p 32 then r else x
def cubeTo (p : Nat) : Nat → Nat
  | 0 => 0
  | k + 1 => stepC p (cubeTo p k) (35 - k)
theorem stepC_lt {p r b : Nat} (h : r < 18446744073709551616) : stepC p r b < 18446744073709551616 := by
  unfold stepC
  dsimp only
  split
  · exact h
  · exact Nat.mod_lt _ (by decide)
theorem cubeTo_lt (p k : Nat) : cubeTo p k < 18446744073709551616 := by
  induction k with
  | zero => exact Nat.zero_lt_succ _
  | succ k ih => exact stepC_lt ih

set_option maxRecDepth 100000 in
set_option maxHeartbeats 4000000 in
theorem ref_cube (p : Nat) (w : World) :
    Calls Tryd.prog 60 #[.int .u64 p] w fun e w' => e = .returned (.int .u32 ((cubeTo p 36 % 4294967296 : Nat) : Int)) ∧ w' = w := by
  go_enter Tryd.func60, Tryd.ntmps60
  go_wp2_with fail
  go_loopw [3, 4] (fun v i wr => ∃ k : Nat, v = .int .u64 (cubeTo p k) ∧ i = .int .i64 (35 - (k : Int)) ∧ k ≤ 36 ∧ wr = w) (fun _ i _ => (intOf i + 1).toNat)
  case atStart => exact ⟨0, rfl, rfl, by omega, rfl⟩
  case round =>
    obtain ⟨k, rfl, rfl, hk, rfl⟩ := hrel
    by_cases hlt : k < 36
    · obtain ⟨b, hb⟩ : ∃ b, 35 - k = b := ⟨_, rfl⟩
      have hbi : (35 : Int) - k = b := by omega
      have hs : cubeTo p (k + 1) = stepC p (cubeTo p k) b := by rw [← hb]; rfl
      have hr := cubeTo_lt p k
      obtain ⟨r, hrr⟩ : ∃ r, cubeTo p k = r := ⟨_, rfl⟩
      rw [hrr] at hs hr ⊢
      have hb35 : b ≤ 35 := by omega
      obtain ⟨x, hx⟩ : ∃ x, (r + 2 ^ b) % 18446744073709551616 = x := ⟨_, rfl⟩
      have hxl : x < 18446744073709551616 := by rw [← hx]; exact Nat.mod_lt _ (by decide)
      have hdef : stepC p r b = if aboveB (tim (tim 0 x x).1 (tim 0 x x).2 x).1 (tim (tim 0 x x).1 (tim 0 x x).2 x).2 p 32 then r else x := by unfold stepC; rw [hx]
      rw [hdef] at hs
      have k1 := ref_times 0 x x hxl hxl
      obtain ⟨⟨h, l⟩, hhl⟩ : ∃ q, tim 0 x x = q := ⟨_, rfl⟩
      have hl1 := (tim_lt 0 x x).2
      rw [hhl] at k1 hs hl1
      have k2 := ref_times h l x hl1 hxl
      obtain ⟨⟨h2, l2⟩, hhl2⟩ : ∃ q, tim h l x = q := ⟨_, rfl⟩
      simp only at hs k1 k2
      rw [hhl2] at k2 hs
      have k3 := ref_above h2 l2 p 32 32 rfl (by decide)
      simp only at hs k2
      obtain ⟨B, hB⟩ : ∃ B, aboveB h2 l2 p 32 = B := ⟨_, rfl⟩
      rw [hB] at hs k3
      have hb2 : (b : Int) < 64 := by omega
      have hb0 : (0 : Int) ≤ b := by omega
      have hwb : IntKind.u64.wrap (b : Int) = b := by rw [IntKind.wrap_u64]; omega
      rw [hbi]
      have hdec : IntKind.i64.wrap ((b : Int) - 1) = 35 - ((k + 1 : Nat) : Int) := by rw [IntKind.wrap_i64]; omega
      obtain ⟨P2, hP2⟩ : ∃ P2, (2 : Nat) ^ b = P2 := ⟨_, rfl⟩
      have hpow : P2 < 18446744073709551616 := by rw [← hP2]; exact Nat.lt_of_le_of_lt (Nat.pow_le_pow_right (by decide) hb35) (by decide)
      have hpi : (2 : Int) ^ b = P2 := by rw [← hP2]; simp
      have hp1 : IntKind.u64.wrap ((2 : Int) ^ b) = P2 := by rw [IntKind.wrap_u64, hpi]; omega
      have hp2 : (2 : Int) ^ b % 18446744073709551616 = P2 := by rw [hpi]; omega
      rw [hP2] at hx
      have hadd : IntKind.u64.wrap ((r : Int) + (P2 : Int)) = x := by rw [IntKind.wrap_u64]; omega
      have hadd' : ((r : Int) + (P2 : Int)) % 18446744073709551616 = x := by omega
      clear hP2 hpi hx hdef hhl hB hrr hb hhl2
      cases B with
      | true =>
        have HS := Lib.hid (hs.trans (by simp : _ = r))
        clear hs
        go_wp2_with fail
        refine (k1 _).mono ?_
        rintro e w' ⟨rfl, rfl⟩
        go_wp2_with fail
        refine (k2 _).mono ?_
        rintro e w' ⟨rfl, rfl⟩
        go_wp2_with fail
        refine (k3 _).mono ?_
        rintro e w' ⟨rfl, rfl⟩
        go_wp2_with fail
        go_roundw
        case rel => exact ⟨k + 1, by rw [HS.out], by go_num, by omega, by trivial⟩
        case measure => simp [intOf]; omega
      | false =>
        have HS := Lib.hid (hs.trans (by simp : _ = x))
        clear hs
        go_wp2_with fail
        refine (k1 _).mono ?_
        rintro e w' ⟨rfl, rfl⟩
        go_wp2_with fail
        refine (k2 _).mono ?_
        rintro e w' ⟨rfl, rfl⟩
        go_wp2_with fail
        refine (k3 _).mono ?_
        rintro e w' ⟨rfl, rfl⟩
        go_wp2_with fail
        go_roundw
        case rel => exact ⟨k + 1, by rw [HS.out], by go_num, by omega, by trivial⟩
        case measure => simp [intOf]; omega
    · obtain rfl : k = 36 := by omega
      have hlt36 := cubeTo_lt p 36
      have hcv : IntKind.u32.wrap (cubeTo p 36 : Int) = ((cubeTo p 36 % 4294967296 : Nat) : Int) := by rw [IntKind.wrap_u32]; simp
      have hcv' : (cubeTo p 36 : Int) % 4294967296 = ((cubeTo p 36 % 4294967296 : Nat) : Int) := by simp
      obtain ⟨V, hV⟩ : ∃ V, cubeTo p 36 % 4294967296 = V := ⟨_, rfl⟩
      rw [hV] at hcv hcv'
      have HV := Lib.hid hV
      obtain ⟨R, hR⟩ : ∃ R, cubeTo p 36 = R := ⟨_, rfl⟩
      rw [hR] at hcv hcv' hlt36 ⊢
      clear hV hR
      rw [show (35 : Int) - ((36 : Nat) : Int) = -1 by omega]
      go_wp2_with fail
      go_ret
      exact ⟨by rw [HV.out]; rfl, rfl⟩

def stepS (p r b : Nat) : Nat :=
  let x := (r + 2 ^ b) % 18446744073709551616
  if aboveB (tim 0 x x).1 (tim 0 x x).2 p 0 then r else x
def squareTo (p : Nat) : Nat → Nat
  | 0 => 0
  | k + 1 => stepS p (squareTo p k) (36 - k)
theorem stepS_lt {p r b : Nat} (h : r < 18446744073709551616) : stepS p r b < 18446744073709551616 := by
  unfold stepS
  dsimp only
  split
  · exact h
  · exact Nat.mod_lt _ (by decide)
theorem squareTo_lt (p k : Nat) : squareTo p k < 18446744073709551616 := by
  induction k with
  | zero => exact Nat.zero_lt_succ _
  | succ k ih => exact stepS_lt ih

set_option maxRecDepth 100000 in
set_option maxHeartbeats 4000000 in
theorem ref_square (p : Nat) (w : World) :
    Calls Tryd.prog 61 #[.int .u64 p] w fun e w' => e = .returned (.int .u32 ((squareTo p 37 % 4294967296 : Nat) : Int)) ∧ w' = w := by
  go_enter Tryd.func61, Tryd.ntmps61
  go_wp2_with fail
  go_loopw [3, 4] (fun v i wr => ∃ k : Nat, v = .int .u64 (squareTo p k) ∧ i = .int .i64 (36 - (k : Int)) ∧ k ≤ 37 ∧ wr = w) (fun _ i _ => (intOf i + 1).toNat)
  case atStart => exact ⟨0, rfl, rfl, by omega, rfl⟩
  case round =>
    obtain ⟨k, rfl, rfl, hk, rfl⟩ := hrel
    by_cases hlt : k < 37
    · obtain ⟨b, hb⟩ : ∃ b, 36 - k = b := ⟨_, rfl⟩
      have hbi : (36 : Int) - k = b := by omega
      have hs : squareTo p (k + 1) = stepS p (squareTo p k) b := by rw [← hb]; rfl
      have hr := squareTo_lt p k
      obtain ⟨r, hrr⟩ : ∃ r, squareTo p k = r := ⟨_, rfl⟩
      rw [hrr] at hs hr ⊢
      have hb35 : b ≤ 36 := by omega
      obtain ⟨x, hx⟩ : ∃ x, (r + 2 ^ b) % 18446744073709551616 = x := ⟨_, rfl⟩
      have hxl : x < 18446744073709551616 := by rw [← hx]; exact Nat.mod_lt _ (by decide)
      have hdef : stepS p r b = if aboveB (tim 0 x x).1 (tim 0 x x).2 p 0 then r else x := by unfold stepS; rw [hx]
      rw [hdef] at hs
      have k1 := ref_times 0 x x hxl hxl
      obtain ⟨⟨h, l⟩, hhl⟩ : ∃ q, tim 0 x x = q := ⟨_, rfl⟩
      rw [hhl] at k1 hs
      have k3 := ref_above h l p 0 0 rfl (by decide)
      simp only at hs k1
      obtain ⟨B, hB⟩ : ∃ B, aboveB h l p 0 = B := ⟨_, rfl⟩
      rw [hB] at hs k3
      have hb2 : (b : Int) < 64 := by omega
      have hb0 : (0 : Int) ≤ b := by omega
      have hwb : IntKind.u64.wrap (b : Int) = b := by rw [IntKind.wrap_u64]; omega
      rw [hbi]
      have hdec : IntKind.i64.wrap ((b : Int) - 1) = 36 - ((k + 1 : Nat) : Int) := by rw [IntKind.wrap_i64]; omega
      obtain ⟨P2, hP2⟩ : ∃ P2, (2 : Nat) ^ b = P2 := ⟨_, rfl⟩
      have hpow : P2 < 18446744073709551616 := by rw [← hP2]; exact Nat.lt_of_le_of_lt (Nat.pow_le_pow_right (by decide) hb35) (by decide)
      have hpi : (2 : Int) ^ b = P2 := by rw [← hP2]; simp
      have hp1 : IntKind.u64.wrap ((2 : Int) ^ b) = P2 := by rw [IntKind.wrap_u64, hpi]; omega
      have hp2 : (2 : Int) ^ b % 18446744073709551616 = P2 := by rw [hpi]; omega
      rw [hP2] at hx
      have hadd : IntKind.u64.wrap ((r : Int) + (P2 : Int)) = x := by rw [IntKind.wrap_u64]; omega
      have hadd' : ((r : Int) + (P2 : Int)) % 18446744073709551616 = x := by omega
      clear hP2 hpi hx hdef hhl hB hrr hb
      cases B with
      | true =>
        have HS := Lib.hid (hs.trans (by simp : _ = r))
        clear hs
        go_wp2_with fail
        refine (k1 _).mono ?_
        rintro e w' ⟨rfl, rfl⟩
        go_wp2_with fail
        refine (k3 _).mono ?_
        rintro e w' ⟨rfl, rfl⟩
        go_wp2_with fail
        go_roundw
        case rel => exact ⟨k + 1, by rw [HS.out], by go_num, by omega, by trivial⟩
        case measure => simp [intOf]; omega
      | false =>
        have HS := Lib.hid (hs.trans (by simp : _ = x))
        clear hs
        go_wp2_with fail
        refine (k1 _).mono ?_
        rintro e w' ⟨rfl, rfl⟩
        go_wp2_with fail
        refine (k3 _).mono ?_
        rintro e w' ⟨rfl, rfl⟩
        go_wp2_with fail
        go_roundw
        case rel => exact ⟨k + 1, by rw [HS.out], by go_num, by omega, by trivial⟩
        case measure => simp [intOf]; omega
    · obtain rfl : k = 37 := by omega
      have hlt36 := squareTo_lt p 37
      have hcv : IntKind.u32.wrap (squareTo p 37 : Int) = ((squareTo p 37 % 4294967296 : Nat) : Int) := by rw [IntKind.wrap_u32]; simp
      have hcv' : (squareTo p 37 : Int) % 4294967296 = ((squareTo p 37 % 4294967296 : Nat) : Int) := by simp
      obtain ⟨V, hV⟩ : ∃ V, squareTo p 37 % 4294967296 = V := ⟨_, rfl⟩
      rw [hV] at hcv hcv'
      have HV := Lib.hid hV
      obtain ⟨R, hR⟩ : ∃ R, squareTo p 37 = R := ⟨_, rfl⟩
      rw [hR] at hcv hcv' hlt36 ⊢
      clear hV hR
      rw [show (36 : Int) - ((37 : Nat) : Int) = -1 by omega]
      go_wp2_with fail
      go_ret
      exact ⟨by rw [HV.out]; rfl, rfl⟩

/-- The roots are the package's. -/
theorem cubes_are : ∀ i : Fin 64, UInt32.ofNat (cubeTo ((pl 312).getD i.val 0) 36 % 4294967296) = rootL.getD i.val 0 := by decide +kernel
theorem squares_are : ∀ i : Fin 8, UInt32.ofNat (squareTo ((pl 312).getD i.val 0) 37 % 4294967296) = firstL.getD i.val 0 := by decide +kernel
end Go.Proofs.YtfdhpjflkimihaaDoor
/- Padded of the reference of sha. No conditions beyond those that each statement types. -/
namespace Go.Proofs.YtfdhpjflkimihaaDoor
open Go.RowKit

theorem be64_take {x j : Nat} (h : j < 8) : (be64 x).take (j + 1) = (be64 x).take j ++ [UInt8.ofNat (x / 2 ^ (56 - 8 * j))] := by
  have hl := be64_length x
  rw [List.take_succ_eq_append_getElem (by omega)]
  congr 2
  simp [be64]
theorem bvs_one8 (c : UInt8) : bvs [c] = [.int .u8 c.toNat] := rfl

def padPre (l : List UInt8) (j : Nat) : List UInt8 := l ++ [128] ++ List.replicate j 0
theorem padPre_zero (l : List UInt8) : padPre l 0 = l ++ [128] := by simp [padPre]
theorem padPre_succ (l : List UInt8) (j : Nat) : padPre l (j + 1) = padPre l j ++ [0] := by
  unfold padPre
  rw [List.replicate_succ', ← List.append_assoc]

set_option maxRecDepth 100000 in
set_option maxHeartbeats 4000000 in
theorem ref_padded (l : List UInt8) (bo : Option Addr) (bc : Nat) (w : World) (hs : Src w bo (bvs l)) (hn0 : bo = none → bc = 0) (hl : l.length ≤ 1000000) :
    Calls Tryd.prog 62 #[.slice bo l.length bc] w (ListedV w 5 (bvs (l ++ padOf l.length))) := by
  obtain ⟨iu, hiu, hiuz, hius, hiub⟩ := info_parts Tryd.infoU8
  obtain ⟨N, hN⟩ : ∃ N, l.length = N := ⟨_, rfl⟩
  have HN := Lib.hid hN
  rw [hN] at hl ⊢
  obtain ⟨Z, hZ⟩ : ∃ Z, (119 - N % 64) % 64 = Z := ⟨_, rfl⟩
  have hZ64 : Z < 64 := by omega
  have HZ := Lib.hid hZ
  have hcond : ∀ j, j ≤ Z → ((N + 1 + j) % 64 = 56 ↔ j = Z) := fun j hj => by omega
  have HC := Lib.hid hcond
  have HP : Hid (padOf N = [128] ++ List.replicate Z 0 ++ be64 (N * 8)) := Lib.hid (by rw [padOf_small N (by omega), hZ])
  clear hZ hcond hN
  go_enter Tryd.func62, Tryd.ntmps62
  go_wp2_with (at_builtin; refine wpList_append_x _ rfl _ _ 25 rfl 5 iu _ 1 1 Tryd.underlying25 hiu hiuz hius hiub rfl (by decide) (.slice none 0 0) 0 [] rfl (World.ownsRow_nil _ _ _ _) bo N bc (bvs l) rfl (by rw [bvs_length, HN.out]; omega) hs hn0 (bvs_one _) (by unfold maxLen; omega) (by omega) ?_)
  intro a1 c1 w1 hown1 hgr1 hblk1
  have D1 : Chg [] w w1 := Chg.grown hgr1 (fun q hq => by cases hq)
  have hown1' : w1.ownsRow 0 5 1 (.slice a1 N c1) N (bvs l) := by simpa using hown1
  have hn1 : ∀ q, (Value.slice a1 N c1).ownBlock = some q → w.heap.size ≤ q := fun q hq => by
    have hq' : (Value.slice a1 (0 + N) c1).ownBlock = some q := by rw [Nat.zero_add]; exact hq
    rcases hblk1 with e | e
    · first
        | (rw [e] at hq'; cases hq')
        | (rw [e] at hq; cases hq)
    · have h2 : w.heap.size = q := by
        first
          | exact Option.some.inj (e.symm.trans hq')
          | exact Option.some.inj (e.symm.trans hq)
      omega
  clear hown1 hgr1 hblk1
  have hs128 : Src (w1.alloc (Obj.cells #[.int .u8 128] 5)) (some ⟨w1.heap.size, 0, none⟩) (bvs [128]) := src_one_v
  go_wp2_with (at_builtin; refine wpList_append_x _ rfl _ _ 25 rfl 5 iu _ 1 1 Tryd.underlying25 hiu hiuz hius hiub rfl (by decide) (.slice a1 N c1) N (bvs l) rfl (ownsRow_chg hown1' (Chg.alloc [] _ _) (by simp)) (some ⟨w1.heap.size, 0, none⟩) 1 1 (bvs [128]) rfl rfl hs128 (fun h => by cases h) (bvs_one _) (by unfold maxLen; omega) (by omega) ?_)
  intro a2 c2 w2 hown2 hgr2 hblk2
  have D2 : Chg [] w w2 := (D1.trans (Chg.alloc [] w1 _) (by simp)).trans (Chg.grown hgr2 (S := (Value.slice a1 N c1).ownBlock.toList) (by intro q hq; left; simp [hq])) (by intro q hq; right; exact hn1 q (by simpa using hq))
  have hn2 : ∀ q, (Value.slice a2 (N + 1) c2).ownBlock = some q → w.heap.size ≤ q := fun q hq => by
    rcases hblk2 with e | e <;> rw [e] at hq
    · exact hn1 q hq
    · have := Option.some.inj hq
      have h1 := D1.size
      (try simp at this)
      omega
  clear hgr2 hblk2 hn1 hown1' D1 hs128
  go_wp2_with fail
  go_loopw [3] (fun v wr => ∃ (j n c : Nat) (a : Option Addr), v = .slice a n c ∧ n = N + 1 + j ∧ j ≤ Z ∧ wr.ownsRow 0 5 1 (.slice a n c) n (bvs (padPre l j)) ∧ Chg [] w wr ∧ ∀ q, (Value.slice a n c).ownBlock = some q → w.heap.size ≤ q) (fun v _ => match v with | .slice _ n _ => (N + 1 + Z) - n | _ => 0)
  case atStart => exact ⟨0, N + 1, c2, a2, rfl, rfl, by omega, by rw [padPre_zero, bvs_append]; exact hown2, D2, hn2⟩
  case round =>
    clear hown2 D2 hn2
    obtain ⟨j, n, c, a, rfl, hn, hj, ho, C, hnew⟩ := hrel
    have hc := HC.out j hj
    rw [← hn] at hc
    have hn2 : n ≤ 1000100 := by omega
    obtain ⟨m, hm⟩ : ∃ m, n % 64 = m := ⟨_, rfl⟩
    rw [hm] at hc
    have hmt : (n : Int).tmod 64 = (m : Int) := by rw [Int.tmod_eq_emod_of_nonneg (by omega), ← hm]; simp
    have hme : (n : Int) % 64 = (m : Int) := by rw [← hm]; simp
    have HM := Lib.hid hm
    have HNN := Lib.hid hn
    clear hm hn
    by_cases h56 : m = 56
    · have hjZ := hc.1 h56
      subst h56
      subst hjZ
      have HJ : Hid (padOf N = [128] ++ List.replicate j 0 ++ be64 (N * 8)) := HP
      clear hc HC HP HZ
      have hmul : IntKind.u64.wrap ((N : Int) * 8) = ((N * 8 : Nat) : Int) := by rw [IntKind.wrap_u64]; omega
      have hcv : IntKind.u64.wrap (N : Int) = N := by rw [IntKind.wrap_u64]; omega
      obtain ⟨S, hS⟩ : ∃ S, N * 8 = S := ⟨_, rfl⟩
      rw [hS] at hmul HJ
      have hS2 : S ≤ 8000000 := by omega
      have HSS := Lib.hid hS
      have HO := Lib.hid ho
      clear hS ho
      go_wp2_with fail
      go_loopw [3, 5] (fun v i wr => ∃ (t n2 c : Nat) (a : Option Addr), v = .slice a n2 c ∧ i = .int .i64 (7 - (t : Int)) ∧ t ≤ 8 ∧ n2 = n + t ∧ wr.ownsRow 0 5 1 (.slice a n2 c) n2 (bvs (padPre l j ++ (be64 S).take t)) ∧ Chg [] w wr ∧ ∀ q, (Value.slice a n2 c).ownBlock = some q → w.heap.size ≤ q) (fun _ i _ => (intOf i + 1).toNat)
      case atStart => exact ⟨0, n, c, a, rfl, rfl, by omega, rfl, by rw [List.take_zero, List.append_nil]; exact HO.out, C, hnew⟩
      case round =>
        clear HO C hnew
        obtain ⟨t, n2, c, a, rfl, rfl, ht, hn2', ho, C, hnew⟩ := hrel
        have hn2b : n2 ≤ 1000200 := by omega
        have HN2 := Lib.hid hn2'
        clear hn2'
        by_cases hlt : t < 8
        · obtain ⟨b, hb⟩ : ∃ b, 7 - t = b := ⟨_, rfl⟩
          have hbi : (7 : Int) - t = b := by omega
          obtain ⟨m8, hm8⟩ : ∃ m8, 56 - 8 * t = m8 := ⟨_, rfl⟩
          have hw8 : IntKind.i64.wrap (8 * (b : Int)) = m8 := by rw [IntKind.wrap_i64]; omega
          have hw9 : IntKind.u64.wrap (m8 : Int) = m8 := by rw [IntKind.wrap_u64]; omega
          have hm64 : (m8 : Int) < 64 := by omega
          have hm0 : (0 : Int) ≤ m8 := by omega
          have hT := be64_take (x := S) hlt
          rw [hm8] at hT
          obtain ⟨y, hy⟩ : ∃ y, UInt8.ofNat (S / 2 ^ m8) = y := ⟨_, rfl⟩
          rw [hy] at hT
          have hdiv : (S : Int) / 2 ^ m8 = ((S / 2 ^ m8 : Nat) : Int) := by simp
          have hyv : IntKind.u8.wrap ((S : Int) / 2 ^ m8) = y.toNat := by
            rw [IntKind.wrap_u8, hdiv, ← hy, UInt8.toNat_ofNat']
            omega
          have hdec : IntKind.i64.wrap ((b : Int) - 1) = 7 - ((t + 1 : Nat) : Int) := by rw [IntKind.wrap_i64]; omega
          have hb0 : (0 : Int) ≤ b := by omega
          have HT := Lib.hid hT
          rw [hbi]
          have hs1 : Src (wr.alloc (Obj.cells #[.int .u8 y.toNat] 5)) (some ⟨wr.heap.size, 0, none⟩) (bvs [y]) := src_one_v
          have CA := Chg.alloc [] wr (Obj.cells #[.int .u8 y.toNat] 5)
          have hl := ownsRow_lt ho
          clear hT hy hdiv hb hm8
          go_wp2_with (at_builtin; refine wpList_append_x _ rfl _ _ 25 rfl 5 iu _ 1 1 Tryd.underlying25 hiu hiuz hius hiub rfl (by decide) (.slice a n2 c) n2 (bvs (padPre l j ++ (be64 S).take t)) rfl (ownsRow_chg ho (Chg.alloc [] _ _) (by simp)) (some ⟨wr.heap.size, 0, none⟩) 1 1 (bvs [y]) rfl rfl hs1 (fun h => by cases h) (bvs_one _) (by unfold maxLen; omega) (by omega) ?_)
          intro ao2 cc w3 hown hgr hblk
          have C1 : Chg [] w w3 := (C.trans CA (by simp)).trans (Chg.grown hgr (S := (Value.slice a n2 c).ownBlock.toList) (by intro q hq; left; simp [hq])) (by intro q hq; right; exact hnew q (by simpa using hq))
          have hnew1 : ∀ q, (Value.slice ao2 (n2 + 1) cc).ownBlock = some q → w.heap.size ≤ q := by
            intro q hq
            have h0 := C.size
            rcases hblk with h1 | h1 <;> rw [h1] at hq
            · exact hnew q hq
            · have := Option.some.inj hq; try simp only [World.size_alloc] at this
              omega
          go_wp2_with fail
          go_roundw
          case rel => exact ⟨t + 1, n2 + 1, cc, ao2, rfl, by go_num, by omega, by have := HN2.out; omega, by rw [HT.out, ← List.append_assoc, bvs_append]; exact hown, C1, hnew1⟩
          case measure => simp [intOf]; omega
        · obtain rfl : t = 8 := by omega
          have hfull : (be64 S).take 8 = be64 S := List.take_of_length_le (by rw [be64_length]; exact Nat.le_refl _)
          rw [hfull] at ho
          have hlist : l ++ padOf N = padPre l j ++ be64 S := by rw [HJ.out, padPre]; simp
          have HLI := Lib.hid hlist
          have hlen : (bvs (l ++ padOf N)).length = n2 := by
            have := ho.1
            rw [hlist]
            omega
          have HLE := Lib.hid hlen
          clear hlist hlen hfull
          rw [show (7 : Int) - ((8 : Nat) : Int) = -1 by omega]
          go_wp2_with fail
          go_ret
          exact ⟨_, rfl, by rw [HLE.out, HLI.out]; exact ho, C, hnew⟩
    · have hjZ : j < Z := by
        rcases Nat.lt_or_ge j Z with h | h
        · exact h
        · exact absurd (hc.2 (by omega)) h56
      have h56' : ((m : Int) != 56) = true := by simpa using fun h : (m : Int) = 56 => h56 (by omega)
      have h56'' : ¬ (m : Int) = 56 := by omega
      have hs0 : Src (wr.alloc (Obj.cells #[.int .u8 0] 5)) (some ⟨wr.heap.size, 0, none⟩) (bvs [0]) := src_one_v
      have CA := Chg.alloc [] wr (Obj.cells #[.int .u8 0] 5)
      have hl := ownsRow_lt ho
      clear hc
      go_wp2_with (at_builtin; refine wpList_append_x _ rfl _ _ 25 rfl 5 iu _ 1 1 Tryd.underlying25 hiu hiuz hius hiub rfl (by decide) (.slice a n c) n (bvs (padPre l j)) rfl (ownsRow_chg ho (Chg.alloc [] _ _) (by simp)) (some ⟨wr.heap.size, 0, none⟩) 1 1 (bvs [0]) rfl rfl hs0 (fun h => by cases h) (bvs_one _) (by unfold maxLen; omega) (by omega) ?_)
      intro ao2 cc w3 hown hgr hblk
      have C1 : Chg [] w w3 := (C.trans CA (by simp)).trans (Chg.grown hgr (S := (Value.slice a n c).ownBlock.toList) (by intro q hq; left; simp [hq])) (by intro q hq; right; exact hnew q (by simpa using hq))
      have hnew1 : ∀ q, (Value.slice ao2 (n + 1) cc).ownBlock = some q → w.heap.size ≤ q := by
        intro q hq
        have h0 := C.size
        rcases hblk with h1 | h1 <;> rw [h1] at hq
        · exact hnew q hq
        · have := Option.some.inj hq; try simp only [World.size_alloc] at this
          omega
      go_wp2_with fail
      go_roundw
      case rel => exact ⟨j + 1, n + 1, cc, ao2, rfl, by rw [HNN.out]; omega, by omega, by rw [padPre_succ, bvs_append]; exact hown, C1, hnew1⟩
      case measure => have := HNN.out; simp; omega
end Go.Proofs.YtfdhpjflkimihaaDoor
/- Words of the reference of sha. No conditions beyond those that each statement types. -/
namespace Go.Proofs.YtfdhpjflkimihaaDoor
open Go.RowKit

theorem Tryd.infoU32 : (Tryd.prog.info? 73).map (fun i => (i.zero, i.size, i.bytes)) = some (some (.int .u32 0), 1, 4) := by kernel_rfl
def wvs (f : Nat → UInt32) (n : Nat) : List Value := (List.range n).map fun t => wv (f t)
theorem wvs_succ (f : Nat → UInt32) (n : Nat) : wvs f (n + 1) = wvs f n ++ [wv (f n)] := by simp [wvs, List.range_succ]
theorem wvs_length (f : Nat → UInt32) (n : Nat) : (wvs f n).length = n := by simp [wvs]
theorem wvs_at (f : Nat → UInt32) {n i : Nat} (h : i < n) : (wvs f n)[i]? = some (wv (f i)) := by simp [wvs, h]
theorem wvs_one (f : Nat → UInt32) (n : Nat) : ∀ u ∈ wvs f n, u.oneCell' = true := by
  intro u hu
  obtain ⟨_, _, rfl⟩ := List.mem_map.1 hu
  rfl
/-- The first k bytes of a word. -/
def part (p : Nat → UInt8) (t : Nat) : Nat → Nat
  | 0 => 0
  | k + 1 => 256 * part p t k + (p (4 * t + k)).toNat
theorem part_lt (p : Nat → UInt8) (t : Nat) : ∀ k, part p t k < 256 ^ k
  | 0 => by simp [part]
  | k + 1 => by
    have h1 := part_lt p t k
    have h2 := (p (4 * t + k)).toNat_lt
    show 256 * part p t k + (p (4 * t + k)).toNat < 256 ^ (k + 1)
    rw [Nat.pow_succ]
    omega
theorem part_four (p : Nat → UInt8) (t : Nat) (ht : t < 16) : (part p t 4 : Int) = ((sched p t).toNat : Int) := by
  rw [sched_small p t ht]
  have h := part_lt p t 4
  have e : part p t 4 = (p (4 * t)).toNat * 16777216 + (p (4 * t + 1)).toNat * 65536 + (p (4 * t + 2)).toNat * 256 + (p (4 * t + 3)).toNat := by
    simp only [part, Nat.add_zero]
    omega
  have h2 : part p t 4 < 4294967296 := by simpa using h
  unfold be4
  rw [UInt32.toNat_ofNat', ← e, Nat.mod_eq_of_lt h2]

set_option maxRecDepth 100000 in
set_option maxHeartbeats 8000000 in
theorem ref_words (M : List UInt8) (bo : Option Addr) (bc : Nat) (w : World) (hs : Src w bo (bvs M)) (hM : M.length = 64) :
    Calls Tryd.prog 63 #[.slice bo 64 bc] w (ListedV w 73 (wvs (sched (fun i => M.getD i 0)) 64)) := by
  obtain ⟨iu, hiu, hiuz, hius, hiub⟩ := info_parts Tryd.infoU32
  obtain ⟨p, hp⟩ : ∃ p : Nat → UInt8, (fun i => M.getD i 0) = p := ⟨_, rfl⟩
  rw [hp]
  have CELL : Hid (∀ wr, Chg [] w wr → ∀ i, i < 64 → ∃ a, bo = some a ∧ wr.cell? (a.add i) = some (bv (p i))) := Lib.hid (fun wr C i hi => by
    cases hb : bo with
    | none =>
      have := hs.nil hb
      rw [bvs, List.map_eq_nil_iff] at this
      rw [this] at hM
      simp at hM
    | some a =>
      refine ⟨a, rfl, C.cell_some (hs.cell a hb i (bv (p i)) ?_) (by simp)⟩
      rw [← hp]
      simp [bvs, hM, hi, List.getD_eq_getElem?_getD])
  have TRN : Hid (∀ (x : UInt32) (k : Nat) (K : Int) (w : World), (k : Int) = K → 1 ≤ k → k ≤ 31 → Calls Tryd.prog 64 #[.int .u32 x.toNat, .int .i64 K] w fun e w' => e = .returned (.int .u32 (rotr x k).toNat) ∧ w' = w) := Lib.hid (fun x k K w h1 h2 h3 => ref_turned x k K h1 h2 h3 w)
  have PF := Lib.hid (part_four p)
  have PL := Lib.hid (part_lt p)
  have SB := Lib.hid (sched_big p)
  clear hp hs hM
  go_enter Tryd.func63, Tryd.ntmps63
  go_wp2_with fail
  go_loopw [3, 4] (fun v i wr => ∃ (t c : Nat) (a : Option Addr), v = .slice a t c ∧ i = .int .i64 t ∧ t ≤ 64 ∧ wr.ownsRow 0 73 1 (.slice a t c) t (wvs (sched p) t) ∧ Chg [] w wr ∧ ∀ q, (Value.slice a t c).ownBlock = some q → w.heap.size ≤ q) (fun _ i _ => 64 - (intOf i).toNat)
  case atStart => exact ⟨0, 0, none, rfl, rfl, by omega, World.ownsRow_nil _ _ _ _, Chg.refl _ _, fun q hq => by cases hq⟩
  case round =>
    obtain ⟨t, c, a, rfl, rfl, ht, ho, C, hnew⟩ := hrel
    have hlo := ownsRow_lt ho
    by_cases hlt : t < 64
    · have hlt' : (t : Int) < 64 := by omega
      have ht0 : (0 : Int) ≤ t := by omega
      have NEWB : Hid (∀ (ao2 : Option Addr) (c2 : Nat) (w0 w1 : World), Chg [] wr w0 → w0.grownBy w1 (Value.slice a t c).ownBlock → ((Value.slice ao2 (t + 1) c2).ownBlock = (Value.slice a t c).ownBlock ∨ (Value.slice ao2 (t + 1) c2).ownBlock = some w0.heap.size) → Chg [] w w1 ∧ ∀ q, (Value.slice ao2 (t + 1) c2).ownBlock = some q → w.heap.size ≤ q) := Lib.hid (fun ao2 c2 w0 w1 C0 hgr hblk => by
        refine ⟨(C.trans C0 (by simp)).trans (Chg.grown hgr (S := (Value.slice a t c).ownBlock.toList) (by intro q hq; left; simp [hq])) (by intro q hq; right; exact hnew q (by simpa using hq)), fun q hq => ?_⟩
        rcases hblk with h1 | h1 <;> rw [h1] at hq
        · exact hnew q hq
        · have := Option.some.inj hq
          have h2 := C.size
          have h3 := C0.size
          omega)
      by_cases h16 : t < 16
      · have h16' : (t : Int) < 16 := by omega
        have HO := Lib.hid ho
        have HCC := Lib.hid C
        clear ho C hnew
        go_wp2_with fail
        go_loopw [5, 6] (fun x k wy => ∃ j : Nat, x = .int .u32 (part p t j) ∧ k = .int .i64 j ∧ j ≤ 4 ∧ wy = wr) (fun _ k _ => 4 - (intOf k).toNat)
        case atStart => exact ⟨0, rfl, rfl, by omega, rfl⟩
        case round =>
          obtain ⟨j, rfl, rfl, hj, rfl⟩ := hrel
          by_cases hlj : j < 4
          · have hlj' : (j : Int) < 4 := by omega
            have hj0 : (0 : Int) ≤ j := by omega
            obtain ⟨ad, rfl, hcell⟩ := CELL.out _ HCC.out (4 * t + j) (by omega)
            have hpl := PL.out t j
            have hpl3 : part p t j < 16777216 := Nat.lt_of_lt_of_le hpl (by
              have : (256 : Nat) ^ j ≤ 256 ^ 3 := Nat.pow_le_pow_right (by decide) (by omega)
              simpa using this)
            have HPS : Hid (part p t (j + 1) = 256 * part p t j + (p (4 * t + j)).toNat) := Lib.hid rfl
            have hb256 := (p (4 * t + j)).toNat_lt
            obtain ⟨ix, hix⟩ : ∃ ix, 4 * t + j = ix := ⟨_, rfl⟩
            have hw4 : IntKind.i64.wrap (4 * (t : Int)) = ((4 * t : Nat) : Int) := by rw [IntKind.wrap_i64]; omega
            have hw5 : IntKind.i64.wrap (4 * (t : Int) + (j : Int)) = ix := by rw [IntKind.wrap_i64]; omega
            rw [hix] at hcell HPS hb256
            have hixb : (ix : Int) < 64 := by omega
            have hix0 : (0 : Int) ≤ ix := by omega
            unfold bv at hcell
            obtain ⟨pv, hpv⟩ : ∃ q, part p t j = q := ⟨_, rfl⟩
            obtain ⟨by_, hby⟩ : ∃ q, (p ix).toNat = q := ⟨_, rfl⟩
            rw [hpv] at hpl3 HPS ⊢
            rw [hby] at hcell hb256 HPS
            have hm1 : IntKind.u32.wrap (256 * (pv : Int)) = ((256 * pv : Nat) : Int) := by rw [IntKind.wrap_u32]; omega
            have hm2 : IntKind.u32.wrap (by_ : Int) = by_ := by rw [IntKind.wrap_u32]; omega
            obtain ⟨nx, hnx⟩ : ∃ q, 256 * pv + by_ = q := ⟨_, rfl⟩
            have hm3 : IntKind.u32.wrap (256 * (pv : Int) + (by_ : Int)) = nx := by rw [IntKind.wrap_u32]; omega
            have hm4 : 256 * (pv : Int) % 4294967296 = 256 * (pv : Int) := by omega
            have hm5 : (256 * (pv : Int) + (by_ : Int)) % 4294967296 = nx := by omega
            rw [hnx] at HPS
            clear hpl hix hpv hby hnx
            go_wp2_with fail
            go_roundw
            case rel => exact ⟨j + 1, by rw [HPS.out], by go_num, by omega, by trivial⟩
            case measure => simp [intOf]; omega
          · obtain rfl : j = 4 := by omega
            have hpf := PF.out t h16
            rw [hpf]
            obtain ⟨x, hx⟩ : ∃ x, sched p t = x := ⟨_, rfl⟩
            rw [hx]
            have HS := Lib.hid (wvs_succ (sched p) t)
            rw [hx] at HS
            have hs1 : Src (wr.alloc (Obj.cells #[.int .u32 x.toNat] 73)) (some ⟨wr.heap.size, 0, none⟩) [wv x] := src_one_v
            clear hx hpf
            go_wp2_with (at_builtin; refine wpList_append_x _ rfl _ _ 111 rfl 73 iu _ 1 4 Tryd.underlying111 hiu hiuz hius hiub rfl (by decide) (.slice a t c) t (wvs (sched p) t) rfl (ownsRow_chg HO.out (Chg.alloc [] _ _) (by simp)) (some ⟨wr.heap.size, 0, none⟩) 1 1 [wv x] rfl rfl hs1 (fun h => by cases h) (by simp [wv, Value.oneCell']) (by unfold maxLen; omega) (by omega) ?_)
            intro ao2 c2 w1 hown hgr hblk
            obtain ⟨C1, hnew1⟩ := NEWB.out ao2 c2 _ w1 (Chg.alloc [] _ _) hgr (by first | exact hblk | simpa using hblk)
            go_wp2_with fail
            go_roundw
            case rel => exact ⟨t + 1, c2, ao2, rfl, by go_num, by omega, by rw [HS.out]; exact hown, C1, hnew1⟩
            case measure => simp [intOf]; omega
      · have h16' : ¬ (t : Int) < 16 := by omega
        obtain ⟨g, rfl⟩ := ownsRow_head ho (by omega)
        have hcell : ∀ i, i < t → wr.cell? ⟨g, i, none⟩ = some (wv (sched p i)) := fun i hi => by
          have := (ownsRow_src ho).cell _ rfl i (wv (sched p i)) (wvs_at _ hi)
          rw [addr_add0] at this
          exact this
        have e15 := hcell (t - 15) (by omega)
        have e2 := hcell (t - 2) (by omega)
        have e16 := hcell (t - 16) (by omega)
        have e7 := hcell (t - 7) (by omega)
        have hb := SB.out t h16
        obtain ⟨j15, hj15⟩ : ∃ q, t - 15 = q := ⟨_, rfl⟩
        obtain ⟨j2, hj2⟩ : ∃ q, t - 2 = q := ⟨_, rfl⟩
        obtain ⟨j16, hj16⟩ : ∃ q, t - 16 = q := ⟨_, rfl⟩
        obtain ⟨j7, hj7⟩ : ∃ q, t - 7 = q := ⟨_, rfl⟩
        rw [hj15] at e15 hb
        rw [hj2] at e2 hb
        rw [hj16] at e16 hb
        rw [hj7] at e7 hb
        have i15 : IntKind.i64.wrap ((t : Int) - 15) = j15 := by rw [IntKind.wrap_i64]; omega
        have i2 : IntKind.i64.wrap ((t : Int) - 2) = j2 := by rw [IntKind.wrap_i64]; omega
        have i16 : IntKind.i64.wrap ((t : Int) - 16) = j16 := by rw [IntKind.wrap_i64]; omega
        have i7 : IntKind.i64.wrap ((t : Int) - 7) = j7 := by rw [IntKind.wrap_i64]; omega
        have l15 : (j15 : Int) < t := by omega
        have l2 : (j2 : Int) < t := by omega
        have l16 : (j16 : Int) < t := by omega
        have l7 : (j7 : Int) < t := by omega
        have z15 : (0 : Int) ≤ j15 := by omega
        have z2 : (0 : Int) ≤ j2 := by omega
        have z16 : (0 : Int) ≤ j16 := by omega
        have z7 : (0 : Int) ≤ j7 := by omega
        have HS := Lib.hid (wvs_succ (sched p) t)
        obtain ⟨X15, hX15⟩ : ∃ q, sched p j15 = q := ⟨_, rfl⟩
        obtain ⟨X2, hX2⟩ : ∃ q, sched p j2 = q := ⟨_, rfl⟩
        obtain ⟨X16, hX16⟩ : ∃ q, sched p j16 = q := ⟨_, rfl⟩
        obtain ⟨X7, hX7⟩ : ∃ q, sched p j7 = q := ⟨_, rfl⟩
        rw [hX15] at e15 hb
        rw [hX2] at e2 hb
        rw [hX16] at e16 hb
        rw [hX7] at e7 hb
        unfold wv at e15 e2 e16 e7
        have HB := Lib.hid hb
        have HO := Lib.hid ho
        have HCC := Lib.hid C
        have rx := w_xor
        have ra := w_add
        have s3 := u_shr3
        have s10 := u_shr10
        clear hcell hb hj15 hj2 hj16 hj7 hX15 hX2 hX16 hX7 ho C hnew hlo
        go_wp2_with fail
        go_quiet (fail)
        have D0 := Chg.drewN [] wr nq
        have f16 : (wr.drewN nq).cell? ⟨g, j16, none⟩ = some (.int .u32 X16.toNat) := e16
        have f7 : (wr.drewN nq).cell? ⟨g, j7, none⟩ = some (.int .u32 X7.toNat) := e7
        have HO2 := Lib.hid (ownsRow_chg HO.out D0 (by simp))
        clear e15 e2 e16 e7
        generalize wr.drewN nq = wq at *
        go_wp2_with fail
        refine (TRN.out X15 7 7 _ rfl (by decide) (by decide)).mono ?_
        rintro e w' ⟨rfl, rfl⟩
        go_wp2_with fail
        refine (TRN.out X15 18 18 _ rfl (by decide) (by decide)).mono ?_
        rintro e w' ⟨rfl, rfl⟩
        go_wp2_with fail
        refine (TRN.out X2 17 17 _ rfl (by decide) (by decide)).mono ?_
        rintro e w' ⟨rfl, rfl⟩
        go_wp2_with fail
        refine (TRN.out X2 19 19 _ rfl (by decide) (by decide)).mono ?_
        rintro e w' ⟨rfl, rfl⟩
        go_upto_region 15 with (fail)
        have HX : Hid (sch X16 X15 X7 X2 = wadd (wadd (wadd X16 (wxor (wxor (rotr X15 7) (rotr X15 18)) (shr X15 3))) X7) (wxor (wxor (rotr X2 17) (rotr X2 19)) (shr X2 10))) := Lib.hid rfl
        obtain ⟨S0, hS0⟩ : ∃ q, wxor (wxor (rotr X15 7) (rotr X15 18)) (shr X15 3) = q := ⟨_, rfl⟩
        obtain ⟨S1, hS1⟩ : ∃ q, wxor (wxor (rotr X2 17) (rotr X2 19)) (shr X2 10) = q := ⟨_, rfl⟩
        rw [hS0, hS1] at HX ⊢
        clear hS0 hS1 rx s3 s10
        have f16d : (w'.drewN 1).cell? ⟨g, j16, none⟩ = some (.int .u32 X16.toNat) := f16
        have f7d : (w'.drewN 1).cell? ⟨g, j7, none⟩ = some (.int .u32 X7.toNat) := f7
        have n16 := World.cell?_alloc_lt w' (.cells #[.int .u32 (wadd (wadd (wadd X16 S0) X7) S1).toNat] 73) ⟨g, j16, none⟩ (World.block_lt_of_cell? _ _ f16)
        go_region_law (refine step_append_x _ rfl _ _ 111 rfl 73 iu _ 1 4 Tryd.underlying111 hiu hiuz hius hiub rfl (by decide) (.slice (some ⟨g, 0, none⟩) t c) t (wvs (sched p) t) rfl (ownsRow_chg HO2.out ((Chg.drewN [] _ 1).trans (Chg.alloc [] _ _) (by simp)) (by simp)) (some ⟨w'.heap.size, 0, none⟩) 1 1 [wv (wadd (wadd (wadd X16 S0) X7) S1)] rfl rfl (src_one_v (wr := w'.drewN 1)) (fun h => by cases h) (by simp [wv, Value.oneCell']) (by unfold maxLen; omega) (by omega) ?_; intro ao2 c2 w1 hown hgr hblk)
        all_goals
          go_wp2_with fail
          go_roundw
          case rel =>
            obtain ⟨C1, hnew1⟩ := NEWB.out ao2 c2 _ w1 ((D0.trans (Chg.drewN [] _ 1) (by simp)).trans (Chg.alloc [] _ _) (by simp)) hgr (by first | exact hblk | simpa using hblk)
            exact ⟨t + 1, c2, ao2, rfl, by go_num, by omega, by rw [HS.out, HB.out, HX.out]; exact hown, C1, hnew1⟩
          case measure => simp [intOf]; omega
    · obtain rfl : t = 64 := by omega
      have HL : Hid ((wvs (sched p) 64).length = 64) := Lib.hid (wvs_length _ _)
      go_wp2_with fail
      go_ret
      exact ⟨_, rfl, by rw [HL.out]; exact ho, C, hnew⟩
end Go.Proofs.YtfdhpjflkimihaaDoor
