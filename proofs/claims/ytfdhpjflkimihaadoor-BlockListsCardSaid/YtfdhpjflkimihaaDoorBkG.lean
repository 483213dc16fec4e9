/- cmp.Compare, cmp.Or and before, walked. No conditions beyond those that each statement types. -/
import Derived.Test.YtfdhpjflkimihaaDoorBkF
namespace Go.Proofs.YtfdhpjflkimihaaDoor
open Go.RowKit

def cmpS (a b : ByteArray) : Int := if Op.bytesLess a.toList b.toList then -1 else if a.toList == b.toList then 0 else 1
def cmpI (a b : Int) : Int := if a < b then -1 else if b < a then 1 else 0
theorem nan_s (x : ByteArray) (w : World) : Calls Tryd.prog 105 #[.string x] w fun e w' => e = .returned (.bool false) ∧ w = w' := by
  have hx : (x.toList == x.toList) = true := by simp
  go_enter Tryd.func105, Tryd.ntmps105
  go_wp2_with fail
  go_ret
  exact ⟨by first | rfl | simp, rfl⟩
theorem nan_i (x : Int) (w : World) : Calls Tryd.prog 106 #[.int .i64 x] w fun e w' => e = .returned (.bool false) ∧ w = w' := by
  have hx : (x != x) = false := by simp
  go_enter Tryd.func106, Tryd.ntmps106
  go_wp2_with fail
  go_ret
  exact ⟨by first | rfl | simp, rfl⟩
set_option maxHeartbeats 1000000 in
theorem cmp_s (a b : ByteArray) (w : World) : Calls Tryd.prog 96 #[.string a, .string b] w fun e w' => e = .returned (.int .i64 (cmpS a b)) ∧ w' = w := by
  have K1 := Lib.hid (nan_s a w)
  have K2 := Lib.hid (nan_s b w)
  obtain ⟨L, hL⟩ : ∃ L, Op.bytesLess a.toList b.toList = L := ⟨_, rfl⟩
  obtain ⟨E, hE⟩ : ∃ E, (a.toList == b.toList) = E := ⟨_, rfl⟩
  have hr : cmpS a b = if L then -1 else if E then 0 else 1 := by unfold cmpS; rw [hL, hE]
  rw [hr]
  clear hr
  cases L with
  | true =>
    go_enter Tryd.func96, Tryd.ntmps96
    go_wp2_with fail
    refine K1.out.mono ?_
    rintro e w' ⟨rfl, rfl⟩
    go_wp2_with fail
    refine K2.out.mono ?_
    rintro e w' ⟨rfl, rfl⟩
    go_wp2_with fail
    go_ret
    exact ⟨rfl, rfl⟩
  | false =>
    cases E with
    | true =>
      go_enter Tryd.func96, Tryd.ntmps96
      go_wp2_with fail
      refine K1.out.mono ?_
      rintro e w' ⟨rfl, rfl⟩
      go_wp2_with fail
      refine K2.out.mono ?_
      rintro e w' ⟨rfl, rfl⟩
      go_wp2_with fail
      go_ret
      exact ⟨rfl, rfl⟩
    | false =>
      go_enter Tryd.func96, Tryd.ntmps96
      go_wp2_with fail
      refine K1.out.mono ?_
      rintro e w' ⟨rfl, rfl⟩
      go_wp2_with fail
      refine K2.out.mono ?_
      rintro e w' ⟨rfl, rfl⟩
      go_wp2_with fail
      go_ret
      exact ⟨rfl, rfl⟩
set_option maxHeartbeats 1000000 in
theorem cmp_i (a b : Int) (w : World) : Calls Tryd.prog 97 #[.int .i64 a, .int .i64 b] w fun e w' => e = .returned (.int .i64 (cmpI a b)) ∧ w' = w := by
  have K1 := Lib.hid (nan_i a w)
  have K2 := Lib.hid (nan_i b w)
  by_cases h1 : a < b
  · have hr : cmpI a b = -1 := by unfold cmpI; rw [if_pos h1]
    rw [hr]
    clear hr
    go_enter Tryd.func97, Tryd.ntmps97
    go_wp2_with fail
    refine K1.out.mono ?_
    rintro e w' ⟨rfl, rfl⟩
    go_wp2_with fail
    refine K2.out.mono ?_
    rintro e w' ⟨rfl, rfl⟩
    go_wp2_with fail
    go_ret
    exact ⟨rfl, rfl⟩
  · by_cases h2 : b < a
    · have hr : cmpI a b = 1 := by unfold cmpI; rw [if_neg h1, if_pos h2]
      rw [hr]
      clear hr
      go_enter Tryd.func97, Tryd.ntmps97
      go_wp2_with fail
      refine K1.out.mono ?_
      rintro e w' ⟨rfl, rfl⟩
      go_wp2_with fail
      refine K2.out.mono ?_
      rintro e w' ⟨rfl, rfl⟩
      go_wp2_with fail
      go_ret
      exact ⟨rfl, rfl⟩
    · have hr : cmpI a b = 0 := by unfold cmpI; rw [if_neg h1, if_neg h2]
      rw [hr]
      clear hr
      go_enter Tryd.func97, Tryd.ntmps97
      go_wp2_with fail
      refine K1.out.mono ?_
      rintro e w' ⟨rfl, rfl⟩
      go_wp2_with fail
      refine K2.out.mono ?_
      rintro e w' ⟨rfl, rfl⟩
      go_wp2_with fail
      go_ret
      exact ⟨rfl, rfl⟩
/-- The first of two that is not 0. -/
theorem cmp_or (x y : Int) (g c : Nat) (w : World) (h0 : w.cell? ⟨g, 0, none⟩ = some (.int .i64 x)) (h1 : w.cell? ⟨g, 1, none⟩ = some (.int .i64 y)) :
    Calls Tryd.prog 95 #[.slice (some ⟨g, 0, none⟩) 2 c] w fun e w' => e = .returned (.int .i64 (if x = 0 then y else x)) ∧ w' = w := by
  obtain ⟨R, hR⟩ : ∃ R, (if x = 0 then y else x) = R := ⟨_, rfl⟩
  have HR := Lib.hid hR
  rw [hR]
  clear hR
  go_enter Tryd.func95, Tryd.ntmps95
  go_wp2_with fail
  go_loop [8] (fun v => ∃ k : Nat, v = .int .i64 k ∧ Hid (k = 0 ∨ (k = 1 ∧ x = 0) ∨ (k = 2 ∧ x = 0 ∧ y = 0))) (fun v => 2 - (intOf v).toNat)
  case atStart => exact ⟨0, rfl, Lib.hid (.inl rfl)⟩
  case round =>
    obtain ⟨k, rfl, hk⟩ := hrel
    have hk2 : k ≤ 2 := by have := hk.out; omega
    rcases Nat.eq_zero_or_pos k with h | h
    · subst h
      by_cases hx : x = 0
      · have hx' : (x != 0) = false := by simp [hx]
        have HX := Lib.hid hx
        clear hx
        go_wp2_with fail
        go_round
        case rel => exact ⟨1, by go_num, Lib.hid (.inr (.inl ⟨rfl, HX.out⟩))⟩
        case measure => simp [intOf] <;> omega
      · have hx' : (x != 0) = true := by simp [hx]
        have HX : Hid (x = R) := Lib.hid (by rw [← HR.out, if_neg hx])
        clear hx
        go_wp2_with fail
        go_ret
        exact ⟨by rw [← HX.out]; rfl, rfl⟩
    · have HX : Hid (x = 0) := Lib.hid (by have := hk.out; omega)
      rcases Nat.lt_or_ge k 2 with h2 | h2
      · obtain rfl : k = 1 := by omega
        by_cases hy : y = 0
        · have hy' : (y != 0) = false := by simp [hy]
          have HY := Lib.hid hy
          clear hy
          go_wp2_with fail
          go_round
          case rel => exact ⟨2, by go_num, Lib.hid (.inr (.inr ⟨rfl, HX.out, HY.out⟩))⟩
          case measure => simp [intOf] <;> omega
        · have hy' : (y != 0) = true := by simp [hy]
          have HY : Hid (y = R) := Lib.hid (by rw [← HR.out, if_pos HX.out])
          clear hy
          go_wp2_with fail
          go_ret
          exact ⟨by rw [← HY.out]; rfl, rfl⟩
      · obtain rfl : k = 2 := by omega
        have HY : Hid (0 = R) := Lib.hid (by rw [← HR.out, if_pos HX.out]; have := hk.out; omega)
        go_wp2_with fail
        go_ret
        exact ⟨by rw [← HY.out]; rfl, rfl⟩
/-- The order of places. -/
def befo (p q : ByteArray × Nat) : Int := if cmpS p.1 q.1 = 0 then cmpI p.2 q.2 else cmpS p.1 q.1
set_option maxRecDepth 100000 in
set_option maxHeartbeats 2000000 in
theorem blk_before (p q : ByteArray × Nat) (w : World) : Calls Tryd.prog 69 #[.agg #[.string p.1, .int .i64 p.2], .agg #[.string q.1, .int .i64 q.2]] w fun e w' => e = .returned (.int .i64 (befo p q)) ∧ Chg [] w w' := by
  obtain ⟨s, i⟩ := p
  obtain ⟨t, j⟩ := q
  obtain ⟨a, ha⟩ : ∃ a, cmpS s t = a := ⟨_, rfl⟩
  obtain ⟨b, hb⟩ : ∃ b, cmpI i j = b := ⟨_, rfl⟩
  have hr : befo (s, i) (t, j) = if a = 0 then b else a := by unfold befo; rw [ha, hb]
  have K1 := Lib.hid (fun w => cmp_s s t w)
  have K2 := Lib.hid (fun w => cmp_i i j w)
  rw [ha] at K1
  rw [hb] at K2
  have KOR := Lib.hid (fun g w h0 h1 => cmp_or a b g 2 w h0 h1)
  obtain ⟨R, hR⟩ : ∃ R, (if a = 0 then b else a) = R := ⟨_, rfl⟩
  rw [hr]
  rw [hR] at KOR ⊢
  clear hr ha hb hR
  have C1 := Chg.alloc [] w (.cells #[.string s, .int .i64 i] 57)
  have C2 := Chg.alloc [] (w.alloc (.cells #[.string s, .int .i64 i] 57)) (.cells #[.string t, .int .i64 j] 57)
  have hp := heap_alloc_new w (.cells #[.string s, .int .i64 i] 57)
  have hq := heap_alloc_new (w.alloc (.cells #[.string s, .int .i64 i] 57)) (.cells #[.string t, .int .i64 j] 57)
  have hp2 := (C2.block _ (lt_of_block hp) (by simp)).trans hp
  have T2 := C1.trans C2 (by simp)
  simp only [World.size_alloc] at hq
  go_enter Tryd.func69, Tryd.ntmps69
  go_upto_region 1 with (fail)
  generalize (w.alloc (.cells #[.string s, .int .i64 i] 57)).alloc (.cells #[.string t, .int .i64 j] 57) = w2 at *
  obtain ⟨g, hg⟩ : ∃ g, w.heap.size = g := ⟨_, rfl⟩
  rw [hg] at hp2 hq ⊢
  have p0 : w2.cell? ⟨g, 0, none⟩ = some (.string s) := by rw [cell_of_row _ _ _ _ _ _ hp2]; rfl
  have p1 : w2.cell? ⟨g, 1, none⟩ = some (.int .i64 i) := by rw [cell_of_row _ _ _ _ _ _ hp2]; rfl
  have q0 : w2.cell? ⟨g + 1, 0, none⟩ = some (.string t) := by rw [cell_of_row _ _ _ _ _ _ hq]; rfl
  have q1 : w2.cell? ⟨g + 1, 1, none⟩ = some (.int .i64 j) := by rw [cell_of_row _ _ _ _ _ _ hq]; rfl
  clear hp hp2 hq hg C1 C2
  refine wp_region_still_tail 10 (by kernel_rfl) (by kernel_rfl) ?_
  simp only [List.take_succ_cons, List.take_zero, List.drop_succ_cons, List.drop_zero]
  repeat still_step
  still_call (K1.out _)
  repeat still_step
  still_call (K2.out _)
  repeat still_step
  refine wpStill_nil ?_
  change wpList _ _ _ _ _ w2.drew
  have CA := Chg.alloc [] w2 (.cells #[.int .i64 a, .int .i64 b] 3)
  have ho := heap_alloc_new w2 (.cells #[.int .i64 a, .int .i64 b] 3)
  go_wp2_with fail
  refine (KOR.out w2.heap.size _ (by show World.cell? (w2.alloc _) _ = _; rw [cell_of_row _ _ _ _ _ _ ho]; rfl) (by show World.cell? (w2.alloc _) _ = _; rw [cell_of_row _ _ _ _ _ _ ho]; rfl)).mono ?_
  rintro e w' ⟨rfl, rfl⟩
  go_wp2_with fail
  go_ret
  exact ⟨rfl, (T2.trans CA (by simp)).trans (Chg.drewN [] _ 1) (by simp)⟩
end Go.Proofs.YtfdhpjflkimihaaDoor
