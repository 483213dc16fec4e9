/- The small functions of the reference of fetch: has, rises, but. No conditions beyond those that each statement types. -/
import Derived.Test.YtcapbfhiiiggdaaFetchI
namespace Go.Proofs.Ytcapbfhiiiggdaa
open Go.RowKit

theorem ref_has (l : List Int) (ao : Option Addr) (c : Nat) (x : Int) (w : World) (h : Src w ao (ivs l)) (hl : l.length ≤ 9223372036854775807) :
    Calls Try.prog 37 #[.slice ao l.length c, .int .i64 x] w fun e w' => e = .returned (.bool (decide (x ∈ l))) ∧ w = w' := by
  obtain ⟨n, hn⟩ : ∃ n, l.length = n := ⟨_, rfl⟩
  have hn' : (n : Int) ≤ 9223372036854775807 := by omega
  rw [hn]
  have HN := Lib.hid hn
  clear hn hl
  go_enter Try.func37, Try.ntmps37
  go_wp2_with fail
  go_loopw [5] (fun i wr => ∃ (k : Nat), i = .int .i64 k ∧ k ≤ n ∧ (∀ j y, j < k → l[j]? = some y → y ≠ x) ∧ w = wr) (fun i _ => n - (intOf i).toNat)
  case atStart => exact ⟨0, rfl, by omega, fun j y hj => by omega, rfl⟩
  case round =>
    obtain ⟨k, rfl, hk, hall, rfl⟩ := hrel
    have HA := Lib.hid hall
    clear hall
    by_cases hlt : k < n
    · have hlt' : (k : Int) < n := by omega
      obtain ⟨a, y, rfl, hy, cy⟩ := ivs_src_at h (k := k) (by rw [HN.out]; exact hlt)
      have HY := Lib.hid hy
      clear hy
      by_cases hxy : y = x
      · subst hxy
        have HL : Hid (decide (y ∈ l) = true) := Lib.hid (decide_eq_true (List.mem_of_getElem? HY.out))
        go_wp2_with fail
        go_ret
        exact ⟨by rw [HL.out]; rfl, rfl⟩
      · have hne : (y == x) = false := by simpa using hxy
        have HXY := Lib.hid hxy
        clear hxy
        go_wp2_with fail
        go_roundw
        case rel => exact ⟨k + 1, by go_num, by omega, fun j z hj hz => by
          rcases Nat.lt_or_ge j k with h | h
          · exact HA.out j z h hz
          · have : j = k := by omega
            subst this
            rw [HY.out] at hz
            cases hz
            exact HXY.out, by trivial⟩
        case measure => simp [intOf]; omega
    · have hkn : k = n := by omega
      subst hkn
      have HL : Hid (decide (x ∈ l) = false) := Lib.hid (decide_eq_false (fun hm => by
        obtain ⟨j, hj⟩ := List.mem_iff_getElem?.1 hm
        have := (List.getElem?_eq_some_iff.1 hj).1
        exact HA.out j x (by rw [← HN.out]; exact this) hj rfl))
      go_wp2_with fail
      go_ret
      exact ⟨by rw [HL.out]; rfl, rfl⟩

/-- A list of numbers that is appended to, in new memory: a step of a loop that gathers. -/
theorem src_one_int {wr : World} {x : Int} : Src (wr.alloc (Obj.cells #[.int .i64 x] 3)) (some ⟨wr.heap.size, 0, none⟩) (ivs [x]) := by
  have hnx := heap_alloc_new wr (Obj.cells #[.int .i64 x] 3)
  refine ⟨fun h => by (cases h), fun q hq j u hu => ?_⟩
  cases hq
  have hj : j = 0 := by
    have := (List.getElem?_eq_some_iff.1 hu).1
    simp [ivs] at this; omega
  subst hj
  rw [show (⟨wr.heap.size, 0, none⟩ : Addr).add 0 = ⟨wr.heap.size, 0, none⟩ from rfl, cell_of_row _ _ 0 _ _ _ hnx]
  simpa [ivs, iv] using hu

def butL (l : List Int) (x : Int) (k : Nat) : List Int := (l.take k).filter (· != x)
theorem butL_yes {l : List Int} {x y : Int} {k : Nat} (h : l[k]? = some y) (hne : y ≠ x) : butL l x (k + 1) = butL l x k ++ [y] := by
  unfold butL
  have hk := (List.getElem?_eq_some_iff.1 h)
  obtain ⟨hk, rfl⟩ := hk
  rw [List.take_succ_eq_append_getElem hk, List.filter_append]
  simp [hne]
theorem butL_no {l : List Int} {x : Int} {k : Nat} (h : l[k]? = some x) : butL l x (k + 1) = butL l x k := by
  unfold butL
  obtain ⟨hk, rfl⟩ := List.getElem?_eq_some_iff.1 h
  rw [List.take_succ_eq_append_getElem hk, List.filter_append]
  simp
theorem butL_le (l : List Int) (x : Int) (k : Nat) : (butL l x k).length ≤ k := by
  unfold butL
  have h1 := List.length_filter_le (· != x) (l.take k)
  have h2 := List.length_take_le k l
  omega

set_option maxHeartbeats 1000000 in
theorem ref_but (l : List Int) (bo : Option Addr) (cc : Nat) (x : Int) (w : World) (h : Src w bo (ivs l)) (hl : l.length ≤ 1000000) :
    Calls Try.prog 40 #[.slice bo l.length cc, .int .i64 x] w (Listed w (l.filter (· != x))) := by
  obtain ⟨i0, hi, hz0, hz1, hz2⟩ := info_parts Try.infoInt
  obtain ⟨N, hN⟩ : ∃ n, l.length = n := ⟨_, rfl⟩
  have hN' : (N : Int) ≤ 1000000 := by omega
  rw [hN]
  have HN := Lib.hid hN
  clear hN hl
  go_enter Try.func40, Try.ntmps40
  go_wp2_with fail
  go_loopw [5, 6] (fun v i wr => ∃ (k n c : Nat) (a : Option Addr), v = .slice a n c ∧ i = .int .i64 k ∧ k ≤ N ∧ (butL l x k).length = n ∧ wr.ownsRow 0 3 1 (.slice a n c) n (ivs (butL l x k)) ∧ Chg [] w wr ∧ ∀ q, (Value.slice a n c).ownBlock = some q → w.heap.size ≤ q) (fun _ i _ => N - (intOf i).toNat)
  case atStart => exact ⟨0, 0, 0, none, rfl, rfl, by omega, rfl, World.ownsRow_nil _ _ _ _, Chg.refl _ _, fun q hq => by cases hq⟩
  case round =>
    obtain ⟨k, n, c, a, rfl, rfl, hk, hn, ho, C, hnew⟩ := hrel
    have hnk := butL_le l x k
    rw [hn] at hnk
    by_cases hlt : k < N
    · have hlt' : (k : Int) < N := by omega
      have hs2 : Src wr bo (ivs l) := h.chg C (by simp)
      obtain ⟨ad, y, rfl, hy, cy⟩ := ivs_src_at hs2 (k := k) (by rw [HN.out]; exact hlt)
      have hl := ownsRow_lt ho
      by_cases hxy : y = x
      · subst hxy
        have hs := Lib.hid (butL_no hy)
        have HN2 := Lib.hid hn
        clear hn hy hs2
        go_wp2_with fail
        go_roundw
        case rel => exact ⟨k + 1, n, c, a, rfl, by go_num, by omega, by rw [hs.out]; exact HN2.out, by rw [hs.out]; exact ho, C, hnew⟩
        case measure => simp [intOf]; omega
      · have hs := Lib.hid (butL_yes hy hxy)
        have hne : (y != x) = true := by simpa using hxy
        have HN2 := Lib.hid hn
        clear hn hy hs2 hxy
        have CA := Chg.alloc [] wr (Obj.cells #[.int .i64 y] 3)
        have hsrc := src_one_int (wr := wr) (x := y)
        go_wp2_with (at_builtin; refine wpList_append_x _ rfl _ _ 24 rfl 3 i0 _ 1 8 Try.underlying24 hi hz0 hz1 hz2 rfl (by decide) (.slice a n c) n (ivs (butL l x k)) rfl (ownsRow_chg ho CA (by simp)) (some ⟨wr.heap.size, 0, none⟩) 1 1 (ivs [y]) rfl rfl hsrc (fun h => by cases h) (ivs_one _) (by unfold maxLen; omega) (by omega) ?_)
        intro ao' c' w1 hown hgr hblk
        have C1 : Chg [] w w1 := (C.trans CA (by simp)).trans (Chg.grown hgr (S := (Value.slice a n c).ownBlock.toList) (by intro q hq; left; simp [hq])) (by intro q hq; right; exact hnew q (by simpa using hq))
        have hnew1 : ∀ q, (Value.slice ao' (n + 1) c').ownBlock = some q → w.heap.size ≤ q := by
          intro q hq
          have h0 := C.size
          rcases hblk with h1 | h1 <;> rw [h1] at hq
          · exact hnew q hq
          · have := Option.some.inj hq; try simp only [World.size_alloc] at this
            omega
        go_wp2_with fail
        go_roundw
        case rel => exact ⟨k + 1, n + 1, c', ao', rfl, by go_num, by omega, by rw [hs.out, List.length_append, HN2.out]; rfl, by rw [hs.out, ivs_append]; exact hown, C1, hnew1⟩
        case measure => simp [intOf]; omega
    · have hkn : k = N := by omega
      subst hkn
      have he : butL l x k = l.filter (· != x) := by unfold butL; rw [List.take_of_length_le (by rw [HN.out]; exact Nat.le_refl _)]
      rw [he] at hn ho
      have HN2 := Lib.hid hn
      clear hn he
      go_wp2_with fail
      go_ret
      exact ⟨_, rfl, by rw [HN2.out]; exact ho, C, hnew⟩

set_option maxHeartbeats 6000000 in
theorem ref_rises (l : List Int) (ao : Option Addr) (c : Nat) (least most : Int) (w : World) (hsrc : Src w ao (ivs l)) (hleast : 0 ≤ least) (hmost : most ≤ 1000) (hlen : l.length ≤ 9223372036854775807) :
    Calls Try.prog 36 #[.slice ao l.length c, .int .i64 least, .int .i64 most] w fun e w' => e = .returned (.bool (rises l least most)) ∧ ∃ n, w' = w.drewN n := by
  obtain ⟨n, hn⟩ : ∃ n, l.length = n := ⟨_, rfl⟩
  have hlen' : (n : Int) ≤ 9223372036854775807 := by omega
  rw [hn]
  have HN := Lib.hid hn
  clear hn hlen
  go_enter Try.func36, Try.ntmps36
  go_wp2_with fail
  go_loopw [7] (fun i wr => ∃ (k q : Nat) (lst : Int), i = .int .i64 k ∧ k ≤ n ∧ rises l least most = rises (l.drop k) lst most ∧ least ≤ lst ∧ (∀ j y, k = j + 1 → l[j]? = some y → lst = y + 1 ∧ y ≤ 1000) ∧ (k = 0 → lst = least) ∧ wr = w.drewN q) (fun i _ => n - (intOf i).toNat)
  case atStart => exact ⟨0, 0, least, rfl, by omega, rfl, Int.le_refl _, fun j y h => by omega, fun _ => rfl, rfl⟩
  case round =>
    obtain ⟨k, q, lst, rfl, hk, hrr, hl0, hprev, hz, rfl⟩ := hrel
    have HR := Lib.hid hrr
    clear hrr
    by_cases hlt : k < n
    · have hlt' : (k : Int) < n := by omega
      have hkl : k < l.length := by rw [HN.out]; exact hlt
      obtain ⟨a, x, rfl, hx, cx⟩ := ivs_src_at hsrc hkl
      have hd : l.drop k = x :: l.drop (k + 1) := by
        have := List.drop_eq_getElem_cons hkl
        obtain ⟨h1, h2⟩ := List.getElem?_eq_some_iff.1 hx
        rw [this, h2]
      have HR2 := Lib.hid (HR.out.trans (by rw [hd, rises_cons]))
      have HX := Lib.hid hx
      have cx' : (w.drewN q).cell? (a.add k) = some (.int .i64 x) := cx
      have hk0 : (0 : Int) ≤ k := by omega
      clear hd HR cx hx
      by_cases h1 : x < least
      · have hr : rises l least most = false := by rw [HR2.out, if_pos (.inl (by omega))]
        have HRR := Lib.hid hr
        have d1 : decide (x < least) = true := decide_eq_true h1
        clear hprev hz hr
        generalize hw2 : w.drewN q = wq at *
        have HW := Lib.hid hw2
        clear hw2
        go_wp2_with fail
        go_quiet (fail)
        go_wp2_with fail
        go_ret
        exact ⟨by rw [HRR.out]; rfl, q + nq, by rw [← HW.out, World.drewN_drewN]⟩
      · have d1 : decide (x < least) = false := decide_eq_false h1
        by_cases h2 : most < x
        · have hr : rises l least most = false := by rw [HR2.out, if_pos (.inr h2)]
          have d2 : decide (x > most) = true := decide_eq_true h2
          have d3 : decide (most < x) = true := decide_eq_true h2
          have HRR := Lib.hid hr
          clear hprev hz hr
          generalize hw2 : w.drewN q = wq at *
          have HW := Lib.hid hw2
          clear hw2
          go_wp2_with fail
          go_quiet (fail)
          go_wp2_with fail
          go_ret
          exact ⟨by rw [HRR.out]; rfl, q + nq, by rw [← HW.out, World.drewN_drewN]⟩
        · have d2 : decide (x > most) = false := decide_eq_false h2
          have d3 : decide (most < x) = false := decide_eq_false h2
          by_cases hk1 : k = 0
          · subst hk1
            have hz' := hz rfl
            subst hz'
            rw [show ((0 : Nat) : Int) = 0 from rfl] at *
            rw [show a.add 0 = a by simp [Addr.add]] at cx'
            have hr : rises l lst most = rises (l.drop 1) (x + 1) most := by rw [HR2.out, if_neg (by omega)]
            have HRR := Lib.hid hr
            clear hprev hz hr
            generalize hw2 : w.drewN q = wq at *
            have HW := Lib.hid hw2
            clear hw2
            go_wp2_with fail
            go_quiet (fail)
            go_wp2_with fail
            go_roundw
            case rel => exact ⟨1, q + nq, x + 1, by go_num, by omega, HRR.out, by omega, fun j y hj hy => by
              obtain rfl : j = 0 := by omega
              rw [HX.out] at hy
              cases hy
              exact ⟨rfl, by omega⟩, fun h => by omega, by rw [← HW.out, World.drewN_drewN]⟩
            case measure => simp [intOf]; omega
          · obtain ⟨j, hkj⟩ : ∃ j, k = j + 1 := ⟨k - 1, by omega⟩
            obtain ⟨a2, y, ha2, hy, cy⟩ := ivs_src_at hsrc (k := j) (by omega)
            cases ha2
            obtain ⟨hly, hy1000⟩ := hprev j y hkj hy
            have cy' : (w.drewN q).cell? (a.add j) = some (.int .i64 y) := cy
            have hpos : (0 : Int) < (k : Int) := by omega
            have hw1 : IntKind.i64.wrap ((k : Int) - 1) = (j : Int) := by rw [IntKind.wrap_i64]; omega
            have hj0 : (0 : Int) ≤ j := by omega
            have hjn : (j : Int) < n := by omega
            clear hkj
            have d4 : decide ((k : Int) > 0) = true := decide_eq_true hpos
            have d5 : decide (0 < (k : Int)) = true := decide_eq_true hpos
            have d7 : decide (0 < k) = true := decide_eq_true (by omega)
            by_cases h3 : x ≤ y
            · have hr : rises l least most = false := by rw [HR2.out, if_pos (.inl (by omega))]
              have d6 : decide (x ≤ y) = true := decide_eq_true h3
              have HRR := Lib.hid hr
              clear hprev hz hr cy hy HR2
              generalize hw2 : w.drewN q = wq at *
              have HW := Lib.hid hw2
              clear hw2
              go_wp2_with fail
              go_quiet (fail)
              go_wp2_with fail
              go_ret
              exact ⟨by rw [HRR.out]; rfl, q + nq, by rw [← HW.out, World.drewN_drewN]⟩
            · have hr : rises l least most = rises (l.drop (k + 1)) (x + 1) most := by rw [HR2.out, if_neg (by omega)]
              have d6 : decide (x ≤ y) = false := decide_eq_false h3
              have HRR := Lib.hid hr
              clear hprev hz hr cy hy HR2
              generalize hw2 : w.drewN q = wq at *
              have HW := Lib.hid hw2
              clear hw2
              go_wp2_with fail
              go_quiet (fail)
              go_wp2_with fail
              go_roundw
              case rel => exact ⟨k + 1, q + nq, x + 1, by go_num, by omega, HRR.out, by omega, fun i y hi hy => by
                obtain rfl : i = k := by omega
                rw [HX.out] at hy
                cases hy
                exact ⟨rfl, by omega⟩, fun h => by omega, by rw [← HW.out, World.drewN_drewN]⟩
              case measure => simp [intOf]; omega
    · have hkn : k = n := by omega
      subst hkn
      have hr : rises l least most = true := by rw [HR.out, List.drop_of_length_le (by rw [HN.out]; exact Nat.le_refl _)]; rfl
      have HRR := Lib.hid hr
      clear hprev hz hr
      go_wp2_with fail
      go_ret
      exact ⟨by rw [HRR.out]; rfl, q, rfl⟩
end Go.Proofs.Ytcapbfhiiiggdaa
