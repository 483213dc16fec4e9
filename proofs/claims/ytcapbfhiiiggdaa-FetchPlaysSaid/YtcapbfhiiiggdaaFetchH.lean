/- What some of the laws of fetch does to memory. No conditions beyond those that each statement types. -/
import Derived.Test.YtcapbfhiiiggdaaFetchG
namespace Go.Proofs.Ytcapbfhiiiggdaa
open Go.RowKit

theorem bit_u32 (x k : Nat) (hx : x < 4294967296) : (bits .and .u32 ((x : Int) / 2 ^ k) 1 == 1) = x.testBit k := by
  have hy : x / 2 ^ k < 4294967296 := Nat.lt_of_le_of_lt (Nat.div_le_self _ _) hx
  have e0 : ((x : Int) / 2 ^ k) = ((x / 2 ^ k : Nat) : Int) := by simp
  rw [e0, Nat.testBit_eq_decide_div_mod_eq]
  generalize x / 2 ^ k = y at *
  have h1 : (BitVec.ofInt 32 (y : Int)).toNat = y := by
    rw [BitVec.ofInt_natCast, BitVec.toNat_ofNat]; exact Nat.mod_eq_of_lt (by omega)
  have h3 : bits .and .u32 (y : Int) 1 = ((y % 2 : Nat) : Int) := by
    show IntKind.u32.wrap ((BitVec.ofInt 32 (y : Int) &&& BitVec.ofInt 32 1).toNat : Int) = _
    rw [BitVec.toNat_and, h1, show (BitVec.ofInt 32 1).toNat = 1 from rfl, Nat.and_one_is_mod, IntKind.wrap_u32]
    omega
  rw [h3]
  by_cases h : y % 2 = 1
  · rw [h]; rfl
  · have h0 : y % 2 = 0 := by omega
    rw [h0]; rfl

/-- The numbers from F on whose bits stand in x, of the first k bits. -/
def ones (x F k : Nat) : List Int := List.map (fun n : Nat => (n : Int) + F) (List.filter (fun n => x.testBit n) (List.range k))
theorem ones_yes (x F k : Nat) (h : x.testBit k = true) : ones x F (k + 1) = ones x F k ++ [(k : Int) + F] := by
  simp [ones, List.range_succ, h]
theorem ones_no (x F k : Nat) (h : x.testBit k = false) : ones x F (k + 1) = ones x F k := by
  simp [ones, List.range_succ, h]
theorem ones_le (x F k : Nat) : (ones x F k).length ≤ k := by
  have := List.length_filter_le (fun n => x.testBit n) (List.range k)
  simpa [ones] using this

set_option maxHeartbeats 400000 in
theorem law_some (x F N : Nat) (T : Int) (hT : T = (F : Int) + N - 1) (hF : F ≤ 1) (hN : N ≤ 32) (hx : x < 4294967296) (w : World) :
    Calls Try.prog 8 #[.int .u32 x, .int .i64 F, .int .i64 T] w (Listed w (ones x F N)) := by
  obtain ⟨i0, hi, hz0, hz1, hz2⟩ := info_parts Try.infoInt
  go_enter Try.func8, Try.ntmps8
  go_wp2_with fail
  go_loopw [7, 8] (fun v i wr => ∃ (k n c : Nat) (a : Option Addr), v = .slice a n c ∧ i = .int .i64 ((k : Int) + F) ∧ k ≤ N ∧ (ones x F k).length = n ∧ wr.ownsRow 0 3 1 (.slice a n c) n (ivs (ones x F k)) ∧ Chg [] w wr ∧ ∀ q, (Value.slice a n c).ownBlock = some q → w.heap.size ≤ q) (fun _ i _ => N + F - (intOf i).toNat)
  case atStart => exact ⟨0, 0, 0, none, rfl, by simp, by omega, rfl, World.ownsRow_nil _ _ _ _, Chg.refl _ _, fun q hq => by cases hq⟩
  case round =>
    obtain ⟨k, n, c, a, rfl, rfl, hk, hn, ho, C, hnew⟩ := hrel
    by_cases hlt : k < N
    · have hlt' : (k : Int) + F ≤ T := by omega
      have hsub : (k : Int) + F - F = k := by omega
      have hle := ones_le x F k
      have hl := ownsRow_lt ho
      have hb := bit_u32 x k hx
      have hk32 : (k : Int) < 32 := by omega
      cases hp : x.testBit k with
      | false =>
        rw [hp] at hb
        have hs := Lib.hid (ones_no x F k hp)
        have HN := Lib.hid hn
        have HT := Lib.hid hT
        clear hn hp hT
        go_wp2_with fail
        go_roundw
        case rel => exact ⟨k + 1, n, c, a, rfl, by first | rfl | (congr 1; omega), by omega, by rw [hs.out]; exact HN.out, by rw [hs.out]; exact ho, C, hnew⟩
        case measure => simp [intOf]; omega
      | true =>
        rw [hp] at hb
        have hs := Lib.hid (ones_yes x F k hp)
        rw [hn] at hle
        have HN := Lib.hid hn
        have HT := Lib.hid hT
        clear hn hp hT
        have CA := Chg.alloc [] wr (Obj.cells #[.int .i64 ((k : Int) + F)] 3)
        have hnx := heap_alloc_new wr (Obj.cells #[.int .i64 ((k : Int) + F)] 3)
        have hsrc : Src (wr.alloc (Obj.cells #[.int .i64 ((k : Int) + F)] 3)) (some ⟨wr.heap.size, 0, none⟩) (ivs [(k : Int) + F]) := by
          refine ⟨fun h => by (cases h), fun q hq j u hu => ?_⟩
          cases hq
          have hj : j = 0 := by
            have := (List.getElem?_eq_some_iff.1 hu).1
            simp [ivs] at this; omega
          subst hj
          rw [show (⟨wr.heap.size, 0, none⟩ : Addr).add 0 = ⟨wr.heap.size, 0, none⟩ from rfl, cell_of_row _ _ 0 _ _ _ hnx]
          simpa [ivs, iv] using hu
        go_wp2_with (at_builtin; refine wpList_append_x _ rfl _ _ 24 rfl 3 i0 _ 1 8 Try.underlying24 hi hz0 hz1 hz2 rfl (by decide) (.slice a n c) n (ivs (ones x F k)) rfl (ownsRow_chg ho CA (by simp)) (some ⟨wr.heap.size, 0, none⟩) 1 1 (ivs [(k : Int) + F]) rfl rfl hsrc (fun h => by cases h) (ivs_one _) (by unfold maxLen; omega) (by omega) ?_)
        intro ao' c' w1 hown hgr hblk
        have C1 : Chg [] w w1 := (C.trans CA (by simp)).trans (Chg.grown hgr (S := (Value.slice a n c).ownBlock.toList) (by intro q hq; left; simp [hq])) (by intro q hq; right; exact hnew q (by simpa using hq))
        have hnew1 : ∀ q, (Value.slice ao' (n + 1) c').ownBlock = some q → w.heap.size ≤ q := by
          intro q hq
          have h0 := C.size
          rcases hblk with h1 | h1 <;> rw [h1] at hq
          · exact hnew q hq
          · have := Option.some.inj hq; try simp only [World.size_alloc] at this
            omega
        go_wp2_with fail
        go_roundw
        case rel => exact ⟨k + 1, n + 1, c', ao', rfl, by first | rfl | (congr 1; omega), by omega, by rw [hs.out, List.length_append, HN.out]; rfl, by rw [hs.out, ivs_append]; exact hown, C1, hnew1⟩
        case measure => simp [intOf]; omega
    · have hkN : k = N := by omega
      subst hkN
      have hgt : T < (k : Int) + F := by omega
      have HT := Lib.hid hT
      clear hT
      go_wp2_with fail
      go_ret
      exact ⟨_, rfl, by rw [hn]; exact ho, C, hnew⟩
end Go.Proofs.Ytcapbfhiiiggdaa
