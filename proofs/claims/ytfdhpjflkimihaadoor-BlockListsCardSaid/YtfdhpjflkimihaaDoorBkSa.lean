/- prime, Primes, times, above and turned of the reference of sha. No conditions beyond those that each statement types. -/
import Derived.Test.YtfdhpjflkimihaaDoorBkE
namespace Go.Proofs.YtfdhpjflkimihaaDoor
open Go.RowKit

def primeB (n : Nat) : Bool := decide (1 < n) && (List.range n).all fun d => decide (d < 2) || decide (n < d * d) || n % d != 0
theorem primeB_no {n d : Nat} (h2 : 2 ≤ d) (hd : d * d ≤ n) (hr : n % d = 0) : primeB n = false := by
  unfold primeB
  rw [Bool.and_eq_false_iff]
  right
  rw [List.all_eq_false]
  have hdn : d < n := by
    have : d * 2 ≤ d * d := Nat.mul_le_mul_left d h2
    omega
  refine ⟨d, List.mem_range.2 hdn, ?_⟩
  have h1 : ¬ d < 2 := by omega
  have h3 : ¬ n < d * d := by omega
  simp [h1, h3, hr]
theorem primeB_yes {n D : Nat} (h1 : 1 < n) (hD : n < D * D) (h : ∀ d, 2 ≤ d → d < D → n % d ≠ 0) : primeB n = true := by
  unfold primeB
  rw [Bool.and_eq_true, List.all_eq_true]
  refine ⟨by simpa using h1, fun d _ => ?_⟩
  by_cases hd2 : d < 2
  · simp [hd2]
  · by_cases hdd : d < D
    · have := h d (by omega) hdd
      simp [this]
    · have : D * D ≤ d * d := Nat.mul_le_mul (by omega) (by omega)
      have : n < d * d := by omega
      simp [this]

theorem ref_prime (n : Nat) (h1 : 1 < n) (hn : n ≤ 1000) (w : World) : Calls Tryd.prog 91 #[.int .u64 n] w fun e w' => e = .returned (.bool (primeB n)) ∧ w' = w := by
  obtain ⟨B, hB⟩ : ∃ B, primeB n = B := ⟨_, rfl⟩
  have HB := Lib.hid hB
  rw [hB]
  clear hB
  have h1' : (1 : Int) < n := by omega
  go_enter Tryd.func91, Tryd.ntmps91
  go_wp2_with fail
  go_loopw [3] (fun v wr => ∃ d : Nat, v = .int .u64 d ∧ 2 ≤ d ∧ d ≤ 40 ∧ Hid (∀ e, 2 ≤ e → e < d → n % e ≠ 0) ∧ wr = w) (fun v _ => 41 - (intOf v).toNat)
  case atStart => exact ⟨2, rfl, by omega, by omega, Lib.hid (fun e h1 h2 => by omega), rfl⟩
  case round =>
    obtain ⟨d, rfl, hd2, hd40, hall, rfl⟩ := hrel
    obtain ⟨q, hq⟩ : ∃ q, d * d = q := ⟨_, rfl⟩
    have hq2 : q ≤ 1600 := by rw [← hq]; exact Nat.mul_le_mul hd40 hd40
    have hqi : (d : Int) * d = (q : Int) := by rw [← hq]; simp
    have hw : IntKind.u64.wrap ((d : Int) * (d : Int)) = q := by rw [IntKind.wrap_u64, hqi]; omega
    have HQ := Lib.hid hq
    clear hq hqi
    by_cases hle : q ≤ n
    · have hle' : (q : Int) ≤ n := by omega
      obtain ⟨r, hr⟩ : ∃ r, n % d = r := ⟨_, rfl⟩
      have hrt : (n : Int).tmod d = (r : Int) := by rw [Int.tmod_eq_emod_of_nonneg (by omega), ← hr]; simp
      have hd0 : ¬ (d : Int) = 0 := by omega
      have hd0' : ((d : Int) == 0) = false := by simpa using hd0
      have hdn : ¬ d = 0 := by omega
      have hinc : IntKind.u64.wrap ((d : Int) + 1) = ((d + 1 : Nat) : Int) := by rw [IntKind.wrap_u64]; omega
      have hd39 : d ≤ 39 := by
        rcases Nat.lt_or_ge d 40 with h | h
        · omega
        · have : 40 * 40 ≤ d * d := Nat.mul_le_mul h h
          rw [HQ.out] at this
          omega
      have HR := Lib.hid hr
      clear hr
      by_cases hr0 : r = 0
      · subst hr0
        have hno := primeB_no hd2 (by rw [HQ.out]; exact hle) HR.out
        rw [HB.out] at hno
        subst hno
        go_wp2_with fail
        go_ret
        exact ⟨rfl, rfl⟩
      · have hr0' : ((r : Int) == 0) = false := by simpa using hr0
        have hr0'' : ¬ (r : Int) = 0 := by omega
        go_wp2_with fail
        go_roundw
        case rel => exact ⟨d + 1, by go_num, by omega, by omega, Lib.hid (fun e he1 he2 => by
          rcases Nat.lt_or_ge e d with h | h
          · exact hall.out e he1 h
          · obtain rfl : e = d := by omega
            rw [HR.out]; exact hr0), by trivial⟩
        case measure => simp [intOf]; omega
    · have hle' : ¬ (q : Int) ≤ n := by omega
      have hyes := primeB_yes h1 (by rw [HQ.out]; omega) hall.out
      rw [HB.out] at hyes
      subst hyes
      go_wp2_with fail
      go_ret
      exact ⟨rfl, rfl⟩

/-- The primes below n, as u64 cells. -/
def pl (n : Nat) : List Nat := (List.range n).filter primeB
def uvs (l : List Nat) : List Value := l.map fun x : Nat => .int .u64 x
theorem uvs_append (a b : List Nat) : uvs (a ++ b) = uvs a ++ uvs b := by simp [uvs]
theorem uvs_one (l : List Nat) : ∀ u ∈ uvs l, u.oneCell' = true := by
  intro u hu
  obtain ⟨_, _, rfl⟩ := List.mem_map.1 hu
  rfl
theorem pl_succ (n : Nat) : pl (n + 1) = if primeB n then pl n ++ [n] else pl n := by
  unfold pl
  rw [List.range_succ, List.filter_append]
  cases h : primeB n <;> simp [h]
theorem pl_len : (pl 312).length = 64 := by decide +kernel
theorem pl_311 : (pl 311).length = 63 := by decide +kernel
theorem pl_le {m n : Nat} (h : m ≤ n) : (pl m).length ≤ (pl n).length := by
  induction n with
  | zero =>
    have : m = 0 := by omega
    subst this; exact Nat.le_refl _
  | succ n ih =>
    by_cases hm : m ≤ n
    · refine Nat.le_trans (ih hm) ?_
      rw [pl_succ]
      split
      · simp
      · exact Nat.le_refl _
    · have : m = n + 1 := by omega
      subst this; exact Nat.le_refl _
theorem pl_few {n : Nat} (h : n ≤ 312) : (pl n).length < 64 ↔ n < 312 := by
  constructor
  · intro h1
    rcases Nat.lt_or_ge n 312 with h2 | h2
    · exact h2
    · have : n = 312 := by omega
      subst this
      rw [pl_len] at h1; omega
  · intro h1
    have := pl_le (show n ≤ 311 by omega)
    rw [pl_311] at this
    omega
theorem Tryd.infoU64 : (Tryd.prog.info? 113).map (fun i => (i.zero, i.size, i.bytes)) = some (some (.int .u64 0), 1, 8) := by kernel_rfl

/-- A row of the call's own, new since w. -/
def ListedV (w : World) (t : TypeId) (l : List Value) (r : Ending) (w' : World) : Prop :=
  ∃ v, r = .returned v ∧ w'.ownsRow 0 t 1 v l.length l ∧ Chg [] w w' ∧ ∀ k, v.ownBlock = some k → w.heap.size ≤ k

theorem src_one_v {wr : World} {x : Value} {t : TypeId} : Src (wr.alloc (Obj.cells #[x] t)) (some ⟨wr.heap.size, 0, none⟩) [x] := by
  have hnx := heap_alloc_new wr (Obj.cells #[x] t)
  refine ⟨fun h => by (cases h), fun q hq j u hu => ?_⟩
  cases hq
  rw [addr_add0, cell_of_row _ _ _ _ _ _ hnx]
  simpa using hu

set_option maxHeartbeats 4000000 in
theorem ref_primes (w : World) : Calls Tryd.prog 59 #[.int .i64 64] w (ListedV w 113 (uvs (pl 312))) := by
  obtain ⟨iu, hiu, hiuz, hius, hiub⟩ := info_parts Tryd.infoU64
  have HPR := Lib.hid (fun n w h1 h2 => ref_prime n h1 h2 w)
  have HLEN : Hid ((uvs (pl 312)).length = 64) := Lib.hid (by rw [uvs, List.length_map, pl_len])
  go_enter Tryd.func59, Tryd.ntmps59
  go_wp2_with fail
  go_loopw [3, 4] (fun v i wr => ∃ (k n c : Nat) (a : Option Addr), v = .slice a n c ∧ i = .int .u64 k ∧ 2 ≤ k ∧ k ≤ 312 ∧ (pl k).length = n ∧ wr.ownsRow 0 113 1 (.slice a n c) n (uvs (pl k)) ∧ Chg [] w wr ∧ ∀ q, (Value.slice a n c).ownBlock = some q → w.heap.size ≤ q) (fun _ i _ => 312 - (intOf i).toNat)
  case atStart => exact ⟨2, 0, 0, none, rfl, rfl, by omega, by omega, by decide +kernel, by
    have : uvs (pl 2) = [] := by decide +kernel
    rw [this]; exact World.ownsRow_nil _ _ _ _, Chg.refl _ _, fun q hq => by cases hq⟩
  case round =>
    obtain ⟨k, n, c, a, rfl, rfl, hk2, hk, hn, ho, C, hnew⟩ := hrel
    have hfew := pl_few hk
    rw [hn] at hfew
    have HN := Lib.hid hn
    have hl := ownsRow_lt ho
    have hn64 : n ≤ 64 := by
      have := pl_le hk
      rw [pl_len, hn] at this
      exact this
    by_cases hlt : n < 64
    · have hlt' : (n : Int) < 64 := by omega
      have hk312 := hfew.1 hlt
      have hinc : IntKind.u64.wrap ((k : Int) + 1) = ((k + 1 : Nat) : Int) := by rw [IntKind.wrap_u64]; omega
      have hs := pl_succ k
      have hpr := HPR.out k wr (by omega) (by omega)
      obtain ⟨B, hB⟩ : ∃ B, primeB k = B := ⟨_, rfl⟩
      rw [hB] at hs hpr
      clear hB hfew hn
      cases B with
      | false =>
        have HS := Lib.hid (hs.trans (by simp : _ = pl k))
        clear hs
        go_wp2_with fail
        refine hpr.mono ?_
        rintro r w' ⟨rfl, rfl⟩
        go_wp2_with fail
        go_roundw
        case rel => exact ⟨k + 1, n, c, a, rfl, by go_num, by omega, by omega, by rw [HS.out]; exact HN.out, by rw [HS.out]; exact ho, C, hnew⟩
        case measure => simp [intOf]; omega
      | true =>
        have HS := Lib.hid (hs.trans (by simp : _ = pl k ++ [k]))
        have CA := Chg.alloc [] wr (Obj.cells #[.int .u64 k] 113)
        clear hs
        go_wp2_with fail
        refine hpr.mono ?_
        rintro r w' ⟨rfl, rfl⟩
        go_wp2_with (at_builtin; refine wpList_append_x _ rfl _ _ 109 rfl 113 iu _ 1 8 Tryd.underlying109 hiu hiuz hius hiub rfl (by decide) (.slice a n c) n (uvs (pl k)) rfl (ownsRow_chg ho (Chg.alloc [] _ _) (by simp)) (some ⟨w'.heap.size, 0, none⟩) 1 1 (uvs [k]) rfl rfl src_one_v (fun h => by cases h) (uvs_one _) (by unfold maxLen; omega) (by omega) ?_)
        intro ao2 c2 w1 hown hgr hblk
        have C1 : Chg [] w w1 := (C.trans CA (by simp)).trans (Chg.grown hgr (S := (Value.slice a n c).ownBlock.toList) (by intro q hq; left; simp [hq])) (by intro q hq; right; exact hnew q (by simpa using hq))
        have hnew1 : ∀ q, (Value.slice ao2 (n + 1) c2).ownBlock = some q → w.heap.size ≤ q := by
          intro q hq
          have h0 := C.size
          rcases hblk with h1 | h1 <;> rw [h1] at hq
          · exact hnew q hq
          · have := Option.some.inj hq; try simp only [World.size_alloc] at this
            omega
        go_wp2_with fail
        go_roundw
        case rel => exact ⟨k + 1, n + 1, c2, ao2, rfl, by go_num, by omega, by omega, by rw [HS.out, List.length_append, HN.out]; rfl, by rw [HS.out, uvs_append]; exact hown, C1, hnew1⟩
        case measure => simp [intOf]; omega
    · have hn0 : n = 64 := by omega
      have hk0 : k = 312 := by
        rcases Nat.lt_or_ge k 312 with h | h
        · have := hfew.2 h; omega
        · omega
      subst hk0
      subst hn0
      clear hfew
      go_wp2_with fail
      go_ret
      exact ⟨_, rfl, by rw [HLEN.out]; exact ho, C, hnew⟩

/-- turned is right. -/
theorem ref_turned (x : UInt32) (k : Nat) (K : Int) (hK : (k : Int) = K) (h1 : 1 ≤ k) (h2 : k ≤ 31) (w : World) :
    Calls Tryd.prog 64 #[.int .u32 x.toNat, .int .i64 K] w fun e w' => e = .returned (.int .u32 (rotr x k).toNat) ∧ w' = w := by
  subst hK
  obtain ⟨s, hs⟩ : ∃ s : Nat, 32 - k = s := ⟨_, rfl⟩
  have e1 : (32 : Int) - k = s := by omega
  have hw1 : IntKind.i64.wrap ((32 : Int) - k) = s := by rw [IntKind.wrap_i64]; omega
  have hw2 : IntKind.u64.wrap (k : Int) = k := by rw [IntKind.wrap_u64]; omega
  have hw3 : IntKind.u64.wrap (s : Int) = s := by rw [IntKind.wrap_u64]; omega
  have hs32 : (s : Int) < 32 := by omega
  have hk32 : (k : Int) < 32 := by omega
  have hs0 : (0 : Int) ≤ s := by omega
  have HS := Lib.hid hs
  clear hs
  go_enter Tryd.func64, Tryd.ntmps64
  go_wp2_with fail
  go_ret
  refine ⟨?_, rfl⟩
  show Ending.returned (.int .u32 (bits .or .u32 ((x.toNat : Int) / 2 ^ k) ((x.toNat : Int) * 2 ^ s % 4294967296))) = _
  rw [u_shl, u_shr, u_or, rotr, HS.out, UInt32.or_comm]
end Go.Proofs.YtfdhpjflkimihaaDoor
